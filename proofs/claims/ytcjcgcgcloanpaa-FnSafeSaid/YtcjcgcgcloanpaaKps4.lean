/- Contracts of LockNeeds. Small functions of the laws over bytes: size of the bytes, equality of lists. Plain words for draws: boxes, starts, results. Draws of mazes with locks. Printed by dev/mk_mdraw3.py. Contracts of the reference's l2Has, l2Joins, l2Open, l5Next, l5Largest. Spent keys: what is near, what is left, what can be opened. No program is named here. Contract of l1Put. -/
import Derived.Test.YtcjcgcgcloanpaaKps3
import Derived.Test.YtcjcgcgcloanpaaKps0
import Derived.Test.YtcjcgcgcloanpaaKps1
import Derived.Deep.RegionHeld3
import Derived.Deep.DeepCutAuto
import Derived.Test.YtcjcgcgcloanpaaKps2
set_option linter.unusedVariables false
set_option linter.unusedSimpArgs false
namespace Go.KD
open Go.RowKit
def bitI (x c : Nat) : Int := if x.testBit c then 1 else 0
/-- Six counts with the bits of x added where f says so. -/
def addF (l : List Int) (x : Nat) (f : Nat → Bool) : List Int := (List.range 6).map fun c => l[c]! + if f c then bitI x c else 0
def doorAdd (l : List Int) (x : Nat) : List Int := addF l x fun _ => true
def needsK (ds : List D3) : Nat → List Int
  | 0 => List.replicate 6 0
  | k + 1 => doorAdd (needsK ds k) ds[k]!.2.2.toNat
noncomputable def pLockNeeds (m : Mz) : List Int × Bool := if goodB m then (needsK m.doors m.doors.length, true) else ([], false)
@[simp] theorem addF_len (l : List Int) (x : Nat) (f : Nat → Bool) : (addF l x f).length = 6 := by simp [addF]
theorem needsK_len (ds : List D3) : ∀ k, (needsK ds k).length = 6
  | 0 => by simp [needsK]
  | k + 1 => by simp [needsK, doorAdd]
theorem pLockNeeds_len (m : Mz) : (pLockNeeds m).1.length ≤ 1000000 := by
  unfold pLockNeeds; split
  · simp only; rw [needsK_len]; omega
  · simp
theorem addF_at (l : List Int) (x : Nat) (f : Nat → Bool) (c : Nat) (hc : c < 6) : (addF l x f)[c]! = l[c]! + if f c then bitI x c else 0 := by
  rw [getElem!_pos _ c (by simpa using hc)]; simp [addF]
theorem addF_none (l : List Int) (x : Nat) (f : Nat → Bool) (hl : l.length = 6) (hf : ∀ c, c < 6 → f c = false) : addF l x f = l := by
  apply List.ext_getElem (by simp [hl])
  intro i h1 h2
  simp only [addF_len] at h1
  have := addF_at l x f i h1
  rw [getElem!_pos _ i (by simpa using h1), getElem!_pos l i h2, hf i h1] at this
  simpa using this
theorem addF_set (l : List Int) (x c : Nat) (f g : Nat → Bool) (hc : c < 6) (hf : f c = false) (hg : ∀ c', c' < 6 → g c' = (f c' || decide (c' = c))) : (addF l x f).set c ((addF l x f)[c]! + bitI x c) = addF l x g := by
  apply List.ext_getElem (by simp)
  intro i h1 h2
  simp only [List.length_set, addF_len] at h1
  have hi := addF_at l x g i h1
  have hi2 := addF_at l x f i h1
  rw [getElem!_pos _ i h2] at hi
  rw [getElem!_pos _ i (by simpa using h1)] at hi2
  rw [List.getElem_set, hi, hg i h1]
  by_cases h : c = i
  · subst h
    rw [if_pos rfl, addF_at l x f c hc, hf]
    simp
  · rw [if_neg h, hi2]
    have : decide (i = c) = false := by simp; exact fun e => h e.symm
    rw [this, Bool.or_false]
theorem addF_congr (l : List Int) (x : Nat) (f g : Nat → Bool) (h : ∀ c, c < 6 → (f c = g c ∨ x.testBit c = false)) : addF l x f = addF l x g := by
  apply List.ext_getElem (by simp)
  intro i h1 h2
  simp only [addF_len] at h1
  have hi := addF_at l x g i h1
  have hi2 := addF_at l x f i h1
  rw [getElem!_pos _ i h2] at hi
  rw [getElem!_pos _ i (by simpa using h1)] at hi2
  rw [hi, hi2]
  rcases h i h1 with h | h
  · rw [h]
  · simp [bitI, h]
theorem needs_bound (ds : List D3) : ∀ (k c : Nat), c < 6 → 0 ≤ (needsK ds k)[c]! ∧ (needsK ds k)[c]! ≤ k
  | 0, c, hc => (by decide : ∀ (c : Nat), c < 6 → 0 ≤ (List.replicate 6 (0 : Int))[c]! ∧ (List.replicate 6 (0 : Int))[c]! ≤ ((0 : Nat) : Int)) c hc
  | k + 1, c, hc => by
    have := needs_bound ds k c hc
    rw [needsK, doorAdd, addF_at _ _ _ c hc]
    unfold bitI
    simp only [if_true]
    split <;> omega
theorem addF_bound (ds : List D3) (k x : Nat) (f : Nat → Bool) (c : Nat) (hc : c < 6) : 0 ≤ (addF (needsK ds k) x f)[c]! ∧ (addF (needsK ds k) x f)[c]! ≤ k + 1 := by
  have := needs_bound ds k c hc
  rw [addF_at _ _ _ c hc]
  unfold bitI
  split
  · split <;> omega
  · omega
theorem door_factsN {m : Mz} (h : MzOk m) {k : Nat} (hk : k < m.doors.length) {x y z : Int} (hg : m.doors[k]! = (x, y, z)) : 0 ≤ x ∧ x < y ∧ y < m.size ∧ 0 ≤ z ∧ z < 64 := by
  have := h.dr k hk
  rw [doorB_eq hg] at this
  simp only [Bool.and_eq_true, inB_true, setB_true] at this
  omega
theorem good_okN {m : Mz} (h : goodB m = true) : MzOk m := by
  simp only [goodB, Bool.and_eq_true] at h; exact mazeB_true.1 h.1
theorem own_int {w : World} {lo g n cap : Nat} {e : TypeId} {L : List Int} (h : w.ownsRow lo e 1 (.slice (some ⟨g, 0, none⟩) n cap) n (ints L)) (c : Nat) (hc : c < L.length) : ∃ x, x = L[c]! ∧ w.cell? ⟨g, c, none⟩ = some (.int .i64 x) ∧ w.frozen? ⟨g, c, none⟩ = false := by
  refine ⟨_, rfl, ?_, h.frozenAt _⟩
  have hl := h.1
  rw [length_ints] at hl
  rw [h.cellAt c (by omega), ints, List.getElem?_map, List.getElem?_eq_getElem hc, getElem!_pos L c hc]
  rfl
theorem mem_bit {x : Nat} {i : Int} : i ∈ mem x ↔ ∃ k : Nat, k < 40 ∧ x.testBit k = true ∧ i = (k : Int) := by
  unfold mem memN
  simp only [List.mem_map, List.mem_filter, List.mem_range]
  constructor
  · rintro ⟨k, ⟨h1, h2⟩, h3⟩; exact ⟨k, h1, h2, h3.symm⟩
  · rintro ⟨k, h1, h2, h3⟩; exact ⟨k, ⟨h1, h2⟩, h3.symm⟩
theorem mem_nodupN (x : Nat) : (mem x).Nodup := by
  unfold mem memN
  refine List.Pairwise.map _ ?_ (List.Pairwise.filter _ List.nodup_range)
  intro a b h e
  exact h (by omega)
theorem mem_atN {x j : Nat} (hx : x < 64) (hj : j < (mem x).length) : ∃ c : Nat, c < 6 ∧ (mem x)[j]! = (c : Int) ∧ x.testBit c = true ∧ ∀ i, i ∈ (mem x).take j → i ≠ (c : Int) := by
  have hm : (mem x)[j] ∈ mem x := List.getElem_mem hj
  obtain ⟨c, _, hb, hc⟩ := mem_bit.1 hm
  have hc6 : c < 6 := by
    rcases Nat.lt_or_ge c 6 with h | h
    · exact h
    · rw [Nat.testBit_lt_two_pow (Nat.lt_of_lt_of_le hx (Nat.pow_le_pow_right (by decide) h : 2 ^ 6 ≤ 2 ^ c))] at hb; cases hb
  refine ⟨c, hc6, by rw [getElem!_pos _ j hj, hc], hb, fun i hi e => ?_⟩
  have hnd := mem_nodupN x
  rw [List.nodup_iff_pairwise_ne, List.pairwise_iff_getElem] at hnd
  obtain ⟨t, ht, rfl⟩ := List.mem_iff_getElem.1 hi
  simp only [List.length_take] at ht
  rw [List.getElem_take] at e
  exact hnd t j (by omega) hj (by omega) (e.trans hc.symm)
theorem take_mem {x j : Nat} {c : Nat} (hj : j < (mem x).length) (h : (mem x)[j]! = (c : Int)) (t : Nat) : decide ((t : Int) ∈ (mem x).take (j + 1)) = (decide ((t : Int) ∈ (mem x).take j) || decide (t = c)) := by
  have e : ((t : Int) = (c : Int)) ↔ t = c := by omega
  rw [take_snoc hj, h, Bool.eq_iff_iff]
  simp [e]
theorem bit_y {x c y : Nat} (h : y = x >>> c) : ((y % 2 : Nat) : Int) = bitI x c := by
  rw [h, bit_shr]; unfold bitI; split <;> simp_all
end Go.KD
namespace Go.Proofs.Ytcjcgcgcloanpaa
open Go.RowKit Go.KD
attribute [local go_sem] later_cell later_frozen
set_option maxHeartbeats 4000000 in
set_option maxRecDepth 100000 in
theorem specLockNeeds_c (v : Value) (m : Mz) (w : World) (R : List Int) (b : Bool) (hp : pLockNeeds m = (R, b)) (hm : MzAt w v m) : Calls Try.prog 24 #[v] w fun e w' => ∃ aw cw, e = .returned (.tuple #[.slice aw R.length cw, .bool b]) ∧ IC w' aw R ∧ Below w.heap.size w w' := by
  have hM := hm
  obtain ⟨⟨ad, cd, ak, ck, rfl, hd, hk'⟩, nd, nk⟩ := hM
  obtain ⟨i0, ji, jz0, jz1, jz2⟩ := info_parts infoI
  cases b1 : goodB m
  · simp only [pLockNeeds, b1] at hp
    cases hp
    go_enter Try.func24, Try.ntmps24
    go_wp2_with (go_at_call 74; refine (l7Good_c _ m _ (hm.later (by (repeat (first | exact Below.refl _ _ | apply Below.drew | apply below_drewN | (refine Below.setCell ?_ (by first | omega | (simp; done) | (simp; omega) | (dsimp only; omega)) _) | (refine Below.alloc ?_ (by first | omega | (simp; done) | (simp; omega) | (dsimp only; omega)) _)))))).mono ?_; rintro e w1 ⟨rfl, hb1⟩; have HB1 : Hid (Below w.heap.size w w1) := below_then (by (repeat (first | exact Below.refl _ _ | apply Below.drew | apply below_drewN | (refine Below.setCell ?_ (by first | omega | (simp; done) | (simp; omega) | (dsimp only; omega)) _) | (refine Below.alloc ?_ (by first | omega | (simp; done) | (simp; omega) | (dsimp only; omega)) _)))) hb1)
    have HBF := Lib.hid (HB1.out.alloc HB1.out.size (.cells #[] 3))
    go_ret2
    exact ⟨_, _, rfl, fun k hk => by simp at hk, HBF.out⟩
  · simp only [pLockNeeds, b1, if_true] at hp
    have ok := good_okN b1
    have hnd : m.doors.length ≤ 30 := ok.nd
    have OK := Lib.hid ok; clear ok
    cases hp
    go_enter Try.func24, Try.ntmps24
    go_wp2_with fail
    refine (l7Good_c _ m _ (hm.later (by (repeat (first | exact Below.refl _ _ | apply Below.drew | apply below_drewN | (refine Below.setCell ?_ (by first | omega | (simp; done) | (simp; omega) | (dsimp only; omega)) _) | (refine Below.alloc ?_ (by first | omega | (simp; done) | (simp; omega) | (dsimp only; omega)) _)))))).mono ?_
    rintro e w1 ⟨rfl, hb1⟩
    have HB1 : Hid (Below w.heap.size w w1) := below_then (by (repeat (first | exact Below.refl _ _ | apply Below.drew | apply below_drewN | (refine Below.setCell ?_ (by first | omega | (simp; done) | (simp; omega) | (dsimp only; omega)) _) | (refine Below.alloc ?_ (by first | omega | (simp; done) | (simp; omega) | (dsimp only; omega)) _)))) hb1
    have hz1 := hb1.size
    simp only [World.size_alloc] at hz1
    have hz3 : w.heap.size < w1.heap.size := by omega
    have q1 : w1.cell? ⟨w.heap.size, 1, none⟩ = some (.slice ad m.doors.length cd) := by rw [hb1.cell (p := ⟨w.heap.size, 1, none⟩) (by simp)]; simp [go_sem]
    rw [b1]
    clear hb1
    have J2 := Lib.hid jz2
    go_wp2_with (refine wpList_make_full _ rfl _ _ 25 rfl w1.heap.size 3 i0 (.int .i64 0) 1 Try.underlying25 ji jz0 jz1 .i64 .i64 _ _ 6 rfl rfl rfl rfl ?_ ?_ (Nat.le_refl _) ?_; (rw [J2.out]; omega); (unfold maxLen; omega); intro w2 hown hg; rw [madeI] at hown; have HO := Lib.hid hown; clear hown)
    have HB2 : Hid (Below w1.heap.size w1 w2) := (Below.refl _ _).grown hg (Nat.le_refl _) (fun k h => by cases h)
    clear hg
    go_loopw [5, 6] (fun i _ wr => ∃ k : Nat, k ≤ m.doors.length ∧ i = .int .i64 k ∧ Below w1.heap.size w1 wr ∧ Hid (wr.ownsRow w1.heap.size 3 1 (.slice (some ⟨w1.heap.size, 0, none⟩) 6 6) 6 (ints (needsK m.doors k)))) (fun i _ _ => m.doors.length - (intOf i).toNat)
    case atStart => exact ⟨0, Nat.zero_le _, rfl, HB2.out, HO.out⟩
    case round =>
      obtain ⟨wo, rfl⟩ : ∃ wo : World, wo = wr := ⟨_, rfl⟩
      obtain ⟨k, hk, rfl, hb, HN⟩ := hrel
      have r1 : wo.cell? ⟨w.heap.size, 1, none⟩ = some (.slice ad m.doors.length cd) := (hb.cell (p := ⟨w.heap.size, 1, none⟩) hz3).trans q1
      have HB : Hid (Below w.heap.size w wo) := below_then HB1.out hb
      by_cases hlt : k < m.doors.length
      · obtain ⟨b, off, x, y, z, rfl, HX, hbs, e0, e1, e2⟩ := (hd.later HB.out).at k hlt
        obtain ⟨f1, f2, f3, f4, f5⟩ := door_factsN OK.out hlt HX.out
        obtain ⟨zn, rfl⟩ := Int.eq_ofNat_of_zero_le f4
        have HF : Hid (needsK m.doors (k + 1) = addF (needsK m.doors k) zn fun _ => true) := by
          show doorAdd _ _ = _
          rw [HX.out]; rfl
        clear e0 e1 f1 f2 f3 f4
        go_wp2
        go_loopw [6] (fun c wr => ∃ c' : Nat, c' ≤ 6 ∧ c = .int .i64 c' ∧ Below w1.heap.size w1 wr ∧ Hid (wr.ownsRow w1.heap.size 3 1 (.slice (some ⟨w1.heap.size, 0, none⟩) 6 6) 6 (ints (addF (needsK m.doors k) zn fun t => decide (t < c'))))) (fun c _ => 6 - (intOf c).toNat)
        case atStart => exact ⟨0, by omega, rfl, hb, by rw [addF_none _ _ _ (needsK_len _ _) (fun c hc => by simp)]; exact HN.out⟩
        case round =>
          obtain ⟨c, hc, rfl, hb2, HO2⟩ := hrel
          by_cases hc6 : c < 6
          · obtain ⟨yv, HY, ey⟩ := shr_at zn c
            have hyv : yv < 1099511627776 := by
              have := HY.out; rw [Nat.shiftRight_eq_div_pow] at this; have := Nat.div_le_self zn (2 ^ c); omega
            have ea := and1 hyv
            have hm2 : yv % 2 < 2 := Nat.mod_lt _ (by omega)
            have HBY := Lib.hid (bit_y HY.out)
            have hbd := addF_bound m.doors k zn (fun t => decide (t < c)) c hc6
            obtain ⟨lc, hlc, c0, c1⟩ := own_int HO2.out c (by simpa using hc6)
            rw [← hlc] at hbd
            have HLC := Lib.hid hlc
            have HBX : Hid (Below w.heap.size w wr) := below_then HB1.out hb2
            obtain ⟨b3, off3, x3, y3, z3, hb3, HX3, hbs3, -, -, t2⟩ := (hd.later HBX.out).at k hlt
            obtain ⟨rfl, rfl, rfl⟩ : x3 = x ∧ y3 = y ∧ z3 = (zn : Int) := by have := HX3.out.symm.trans HX.out; simpa using this
            cases hb3
            have t1 : wr.cell? ⟨w.heap.size, 1, none⟩ = some (.slice (some ⟨b, off, none⟩) m.doors.length cd) := (hb2.cell (p := ⟨w.heap.size, 1, none⟩) hz3).trans q1
            have hc0 : (0 : Int) ≤ (c : Int) := by omega
            have hc1 : (c : Int) ≤ 63 := by omega
            clear hyv hlc
            go_wp2
            refine wp_region_tail 17 (by kernel_rfl) (by kernel_rfl) ?_
            simp only [List.take_succ_cons, List.take_zero, List.drop_succ_cons, List.drop_zero]
            repeat still_step
            refine wpStill_nil ?_
            go_wp2
            go_roundw
            case rel =>
              have st := own_store1 HO2.out c (lc + ((yv % 2 : Nat) : Int))
              rw [HBY.out, HLC.out, addF_set (needsK m.doors k) zn c (fun t => decide (t < c)) (fun t => decide (t < c + 1)) hc6 (by simp) (by intro t _; rw [Bool.eq_iff_iff]; simp; omega)] at st
              rw [← HBY.out, ← HLC.out] at st
              exact ⟨c + 1, by omega, by go_num, (hb2.setCell (Nat.le_refl _) _).drew, st.1.drew⟩
            case measure => simp [intOf]; omega
          · obtain rfl : c = 6 := by omega
            go_wp2
            go_roundw
            case rel => exact ⟨k + 1, by omega, by go_num, hb2, by
              rw [HF.out, addF_congr _ zn (fun _ => true) (fun t => decide (t < 6)) (fun c hc => .inl (by simp [hc]))]; exact HO2.out⟩
            case measure => simp [intOf]; omega
      · obtain rfl : k = m.doors.length := by omega
        have hln := needsK_len m.doors m.doors.length
        have HLN := Lib.hid hln; clear hln
        have HFIN : Hid (∃ aw cw, Value.slice (some ⟨w1.heap.size, 0, none⟩) 6 6 = .slice aw (needsK m.doors m.doors.length).length cw ∧ IC wo aw (needsK m.doors m.doors.length)) := ⟨_, _, by rw [HLN.out], ic_of' (Own.of HN.out) HLN.out.symm⟩
        go_wp2
        go_ret2
        obtain ⟨aw, cw, hv, hi⟩ := HFIN.out
        refine ⟨aw, cw, ?_, hi, HB.out⟩
        show Ending.returned (Value.tuple #[Value.slice (some ⟨w1.heap.size, 0, none⟩) 6 6, Value.bool true]) = _
        rw [hv]
set_option maxHeartbeats 4000000 in
theorem implLockNeeds_c (v : Value) (m : Mz) (w : World) (R : List Int) (b : Bool) (hp : pLockNeeds m = (R, b)) (hm : MzAt w v m) : Calls Try.prog 23 #[v] w fun e w' => ∃ u, e = .returned (.tuple #[u, .bool b]) ∧ w'.ownsRow w.heap.size 3 1 u R.length (ints R) ∧ Below w.heap.size w w' := by
  have hM := hm
  obtain ⟨⟨ad, cd, ak, ck, rfl, hd, hk'⟩, nd, nk⟩ := hM
  obtain ⟨i0, ji, jz0, jz1, jz2⟩ := info_parts infoI
  cases b1 : goodB m
  · simp only [pLockNeeds, b1] at hp
    cases hp
    go_enter Try.func23, Try.ntmps23
    go_wp2_with (go_at_call 72; refine (isSpent_c _ m _ (hm.later (by (repeat (first | exact Below.refl _ _ | apply Below.drew | apply below_drewN | (refine Below.setCell ?_ (by first | omega | (simp; done) | (simp; omega) | (dsimp only; omega)) _) | (refine Below.alloc ?_ (by first | omega | (simp; done) | (simp; omega) | (dsimp only; omega)) _)))))).mono ?_; rintro e w1 ⟨rfl, hb1⟩; have HB1 : Hid (Below w.heap.size w w1) := below_then (by (repeat (first | exact Below.refl _ _ | apply Below.drew | apply below_drewN | (refine Below.setCell ?_ (by first | omega | (simp; done) | (simp; omega) | (dsimp only; omega)) _) | (refine Below.alloc ?_ (by first | omega | (simp; done) | (simp; omega) | (dsimp only; omega)) _)))) hb1)
    go_ret2
    exact ⟨_, rfl, ⟨rfl, .inl ⟨rfl, rfl⟩⟩, HB1.out⟩
  · simp only [pLockNeeds, b1, if_true] at hp
    have ok := good_okN b1
    have hnd : m.doors.length ≤ 30 := ok.nd
    have OK := Lib.hid ok; clear ok
    cases hp
    go_enter Try.func23, Try.ntmps23
    go_wp2_with fail
    refine (isSpent_c _ m _ (hm.later (by (repeat (first | exact Below.refl _ _ | apply Below.drew | apply below_drewN | (refine Below.setCell ?_ (by first | omega | (simp; done) | (simp; omega) | (dsimp only; omega)) _) | (refine Below.alloc ?_ (by first | omega | (simp; done) | (simp; omega) | (dsimp only; omega)) _)))))).mono ?_
    rintro e w1 ⟨rfl, hb1⟩
    have HB1 : Hid (Below w.heap.size w w1) := below_then (by (repeat (first | exact Below.refl _ _ | apply Below.drew | apply below_drewN | (refine Below.setCell ?_ (by first | omega | (simp; done) | (simp; omega) | (dsimp only; omega)) _) | (refine Below.alloc ?_ (by first | omega | (simp; done) | (simp; omega) | (dsimp only; omega)) _)))) hb1
    have hz1 := hb1.size
    simp only [World.size_alloc] at hz1
    have hz3 : w.heap.size < w1.heap.size := by omega
    have q1 : w1.cell? ⟨w.heap.size, 1, none⟩ = some (.slice ad m.doors.length cd) := by rw [hb1.cell (p := ⟨w.heap.size, 1, none⟩) (by simp)]; simp [go_sem]
    rw [b1]
    clear hb1
    have J2 := Lib.hid jz2
    go_wp2_with (refine wpList_make_full _ rfl _ _ 25 rfl w1.heap.size 3 i0 (.int .i64 0) 1 Try.underlying25 ji jz0 jz1 .i64 .i64 _ _ 6 rfl rfl rfl rfl ?_ ?_ (Nat.le_refl _) ?_; (rw [J2.out]; omega); (unfold maxLen; omega); intro w2 hown hg; rw [madeI] at hown; have HO := Lib.hid hown; clear hown; have HB2 : Hid (Below w1.heap.size w1 w2) := (Below.refl _ _).grown hg (Nat.le_refl _) (fun k h => by cases h); have q2 : w2.cell? ⟨w.heap.size, 1, none⟩ = some (.slice ad m.doors.length cd) := (HB2.out.cell (p := ⟨w.heap.size, 1, none⟩) hz3).trans q1; clear hg)
    go_loopw [16] (fun i wr => ∃ k : Nat, k ≤ m.doors.length ∧ i = .int .i64 k ∧ Below w1.heap.size w1 wr ∧ Hid (wr.ownsRow w1.heap.size 3 1 (.slice (some ⟨w1.heap.size, 0, none⟩) 6 6) 6 (ints (needsK m.doors k)) ∧ w1.heap.size < wr.heap.size)) (fun i _ => m.doors.length - (intOf i).toNat)
    case atStart => exact ⟨0, Nat.zero_le _, rfl, HB2.out, HO.out, (Own.of HO.out).top _ rfl⟩
    case round =>
      obtain ⟨wo, rfl⟩ : ∃ wo : World, wo = wr := ⟨_, rfl⟩
      obtain ⟨k, hk, rfl, hb, HN⟩ := hrel
      have HB : Hid (Below w.heap.size w wo) := below_then HB1.out hb
      by_cases hlt : k < m.doors.length
      · obtain ⟨b, off, x, y, z, rfl, HX, hbs, e0, e1, e2⟩ := (hd.later HB.out).at k hlt
        obtain ⟨f1, f2, f3, f4, f5⟩ := door_factsN OK.out hlt HX.out
        obtain ⟨zn, rfl⟩ := Int.eq_ofNat_of_zero_le f4
        have hzn : zn < 64 := by omega
        have HF : Hid (needsK m.doors (k + 1) = addF (needsK m.doors k) zn fun _ => true) := by
          show doorAdd _ _ = _
          rw [HX.out]; rfl
        have hzo := HN.out.2
        clear f1 f2 f3 f4 f5
        go_wp2_with fail
        refine (members_c zn (by omega) _).mono ?_
        rintro e w3 ⟨vm, rfl, hom, hbm⟩
        have HM := Lib.hid (Own.of hom); clear hom
        obtain ⟨am, cm, rfl, hmm, him⟩ := HM.out.ic
        have HIM := Lib.hid him; clear him
        have hzm := hbm.size
        simp only [World.size_alloc] at hzm
        have HBM : Hid (Below w1.heap.size w1 w3) := (hb.alloc (by omega) _).trans (hbm.mono (by simp; omega))
        have hml : Hid ((mem zn).length ≤ 6) := by show _ ≤ _; rw [mem_len zn hzn]; exact pop_le6 zn hzn
        have HN3 : Hid (w3.ownsRow w1.heap.size 3 1 (.slice (some ⟨w1.heap.size, 0, none⟩) 6 6) 6 (ints (needsK m.doors k))) := (((Own.of HN.out.1).later ((Below.refl _ _).alloc (Nat.le_refl _) _) (Nat.le_refl _)).later hbm (by simp)).row
        clear hbm
        go_wp2
        go_loopw [24] (fun c wr => ∃ j : Nat, j ≤ (mem zn).length ∧ c = .int .i64 j ∧ Below w1.heap.size w1 wr ∧ Chg w1.heap.size (w1.heap.size + 1) w3 wr ∧ Hid (wr.ownsRow w1.heap.size 3 1 (.slice (some ⟨w1.heap.size, 0, none⟩) 6 6) 6 (ints (addF (needsK m.doors k) zn fun t => decide ((t : Int) ∈ (mem zn).take j))))) (fun c _ => (mem zn).length - (intOf c).toNat)
        case atStart => exact ⟨0, by omega, rfl, HBM.out, Chg.of_below (Below.refl _ _), by rw [addF_none _ _ _ (needsK_len _ _) (fun c hc => by simp)]; exact HN3.out⟩
        case round =>
          obtain ⟨j, hj, rfl, hb2, hch, HO2⟩ := hrel
          by_cases hjl : j < (mem zn).length
          · obtain ⟨c, hc6, hmc, hbit, hnot⟩ := mem_atN hzn hjl
            have HMC := Lib.hid hmc
            have HBIT := Lib.hid hbit
            have HNOT := Lib.hid hnot
            clear hmc hbit hnot
            have hbd := addF_bound m.doors k zn (fun t => decide ((t : Int) ∈ (mem zn).take j)) c hc6
            obtain ⟨lc, hlc, c0, c1⟩ := own_int HO2.out c (by simpa using hc6)
            rw [← hlc] at hbd
            have HLC := Lib.hid hlc; clear hlc
            obtain ⟨bm, offm, xm, rfl, HXM, hbsm, t0⟩ := (ic_of (HM.out.chg hch (.inr (by simp; omega)))).at j hjl
            obtain rfl : xm = (c : Int) := HXM.out.symm.trans HMC.out
            have hjm : (j : Int) < ((mem zn).length : Int) := by omega
            have hj0 : j ≤ 6 := by have := hml.out; omega
            go_wp2
            go_roundw
            case rel =>
              have st := own_store1 HO2.out c (lc + 1)
              have e1 : (1 : Int) = bitI zn c := by unfold bitI; rw [HBIT.out]; rfl
              rw [show lc + 1 = lc + bitI zn c by rw [← e1], HLC.out, addF_set (needsK m.doors k) zn c (fun t => decide ((t : Int) ∈ (mem zn).take j)) (fun t => decide ((t : Int) ∈ (mem zn).take (j + 1))) hc6 (by rw [decide_eq_false_iff_not]; intro h; exact HNOT.out _ h rfl) (fun t _ => take_mem hjl HMC.out t)] at st
              rw [← HLC.out, show lc + bitI zn c = lc + 1 by rw [← e1]] at st
              exact ⟨j + 1, by omega, by go_num, hb2.setCell (Nat.le_refl _) _, hch.trans (Chg.of_grown st.2 (fun g hg => by cases hg; omega)), st.1⟩
            case measure => simp [intOf]; omega
          · obtain rfl : j = (mem zn).length := by omega
            have hj0 : (mem zn).length ≤ 6 := hml.out
            go_wp2
            go_roundw
            case rel => exact ⟨k + 1, by omega, by go_num, hb2, by
              refine ⟨?_, by have := hch.size; omega⟩
              rw [HF.out, addF_congr _ zn (fun _ => true) (fun t => decide ((t : Int) ∈ (mem zn).take (mem zn).length)) (fun c hc => by
                cases hcb : zn.testBit c
                · exact .inr rfl
                · left; symm; rw [decide_eq_true_iff, List.take_of_length_le (Nat.le_refl _)]; exact mem_bit.2 ⟨c, by omega, hcb, rfl⟩)]; exact HO2.out⟩
            case measure => simp [intOf]; omega
      · obtain rfl : k = m.doors.length := by omega
        have HLN := Lib.hid (needsK_len m.doors m.doors.length)
        have HFIN : Hid ((6 : Nat) = (needsK m.doors m.doors.length).length) := HLN.out.symm
        go_wp2
        go_ret2
        refine ⟨_, rfl, ?_, HB.out⟩
        rw [← HFIN.out]
        exact (Own.mono (Own.of HN.out.1) (by omega) (Nat.le_refl _)).row
end Go.Proofs.Ytcjcgcgcloanpaa

namespace Go.KD
open Go.RowKit
/-- A list that a draw of a law gives. -/
def DListP (k : Nat) (w : World) (e : Ending) (w' : World) : Prop := ∃ a c, ∃ L : List Int, e = .returned (.slice a L.length c) ∧ IC w' a L ∧ L.length ≤ k ∧ (∀ x ∈ L, wfI x) ∧ Below w.heap.size w w'
theorem cu_start {w : World} {a : Option Addr} {n cap : Nat} {T : TypeId} (hb : BC w a n) (hn : n ≤ 65536) : Cu w.heap.size 0 (w.alloc (.cells #[.slice a n cap, .int .i64 0, .int .u64 0] T)) := by
  refine ⟨⟨a, n, cap, 0, 0, ?_, ?_, ?_, Nat.le_refl _, hn, fun k hk => ?_⟩, fun o ho => ?_, by simp⟩
  · simp [go_sem]
  · simp [go_sem]
  · simp [go_sem]
  · obtain ⟨b, off, x, e1, e2, e3, e4⟩ := hb k hk
    exact ⟨b, off, x, e1, e2, e3, by rw [World.cell?_alloc_lt _ _ _ e2]; exact e4⟩
  · simp [go_sem]
theorem CuW.start {w w' : World} {o : Obj} {n : Nat} (h : CuW w.heap.size n (w.alloc o) w') : Below w.heap.size w w' := by
  have h1 : Below w.heap.size (w.alloc o) w' := h.ch.below (Nat.le_refl _) (by simp)
  exact ((Below.refl _ _).alloc (Nat.le_refl _) o).trans h1
end Go.KD
namespace Go.Proofs.Ytcjcgcgcloanpaa
open Go.RowKit Go.KD
attribute [local go_sem] later_cell later_frozen
set_option maxHeartbeats 1000000 in
theorem rInts_c (a a' : Option Addr) (cap cap' : Nat) (l m : List Int) (w : World) (hA : IC w a l) (hA' : IC w a' m) (hl : l.length ≤ 1048576) (hl' : m.length ≤ 1048576) : Calls Try.prog 49 #[.slice a l.length cap, .slice a' m.length cap'] w fun e w' =>
   e = .returned (.bool (decide (l = m))) ∧ Below w.heap.size w w' := by
  by_cases hlen : l.length = m.length
  · have HL := Lib.hid hlen
    have hq : ((l.length : Int) != (m.length : Int)) = false := by simp [hlen]
    clear hlen
    go_enter Try.func49, Try.ntmps49
    go_wp2
    clear hq
    go_loopw [5] (fun i wr => ∃ k : Nat, k ≤ l.length ∧ i = .int .i64 k ∧ Below w.heap.size w wr ∧ Hid (l.take k = m.take k)) (fun i _ => l.length - (intOf i).toNat)
    case atStart => exact ⟨0, Nat.zero_le _, rfl, Below.refl _ _, rfl⟩
    case round =>
      obtain ⟨k, hk, rfl, hb, HEQ⟩ := hrel
      by_cases hlt : k < l.length
      · have hlt' : k < m.length := by have := HL.out; omega
        obtain ⟨b, off, x, rfl, HX, hbs, c0⟩ := (hA.later hb).at k hlt
        obtain ⟨b', off', x', rfl, HY, hbs', d0⟩ := (hA'.later hb).at k hlt'
        have hsz := hb.size
        go_wp2
        go_quiet (fail)
        go_wp2
        · go_ret
          exact ⟨ret_bool (by symm; rw [decide_eq_false_iff_not]; rintro rfl; have := HX.out; rw [HY.out] at this; simp_all), by first | exact hb.trans (hb1.mono hsz) | (apply below_drewN; exact hb)⟩
        · go_roundw
          case rel => exact ⟨k+1, by omega, by go_num, by first | exact hb.trans (hb1.mono hsz) | (apply below_drewN; exact hb), take_succ_eq hlt hlt' HEQ.out (by rw [HX.out, HY.out]; simp_all)⟩
          case measure => simp [intOf]; omega
      · go_wp2
        go_ret
        exact ⟨ret_bool (by symm; rw [decide_eq_true_iff]; have := HEQ.out; rwa [List.take_of_length_le (by omega), List.take_of_length_le (by have := HL.out; omega)] at this), hb⟩
  · have hq : ((l.length : Int) != (m.length : Int)) = true := by simp; omega
    go_enter Try.func49, Try.ntmps49
    go_wp2
    go_ret
    exact ⟨ret_bool (by symm; rw [decide_eq_false_iff_not]; rintro rfl; simp at hlen), Below.refl _ _⟩
set_option maxHeartbeats 1000000 in
theorem vInts_c (a a' : Option Addr) (cap cap' : Nat) (l m : List Int) (w : World) (hA : IC w a l) (hA' : IC w a' m) (hl : l.length ≤ 1048576) (hl' : m.length ≤ 1048576) : Calls Try.prog 25 #[.slice a l.length cap, .slice a' m.length cap'] w fun e w' =>
   e = .returned (.bool (decide (l = m))) ∧ Below w.heap.size w w' := by
  by_cases hlen : l.length = m.length
  · have HL := Lib.hid hlen
    have hq : ((l.length : Int) != (m.length : Int)) = false := by simp [hlen]
    clear hlen
    go_enter Try.func25, Try.ntmps25
    go_wp2
    clear hq
    go_loopw [5] (fun i wr => ∃ k : Nat, k ≤ l.length ∧ i = .int .i64 k ∧ Below w.heap.size w wr ∧ Hid (l.take k = m.take k)) (fun i _ => l.length - (intOf i).toNat)
    case atStart => exact ⟨0, Nat.zero_le _, rfl, Below.refl _ _, rfl⟩
    case round =>
      obtain ⟨k, hk, rfl, hb, HEQ⟩ := hrel
      by_cases hlt : k < l.length
      · have hlt' : k < m.length := by have := HL.out; omega
        obtain ⟨b, off, x, rfl, HX, hbs, c0⟩ := (hA.later hb).at k hlt
        obtain ⟨b', off', x', rfl, HY, hbs', d0⟩ := (hA'.later hb).at k hlt'
        have hsz := hb.size
        go_wp2
        go_quiet (fail)
        go_wp2
        · go_ret
          exact ⟨ret_bool (by symm; rw [decide_eq_false_iff_not]; rintro rfl; have := HX.out; rw [HY.out] at this; simp_all), by first | exact hb.trans (hb1.mono hsz) | (apply below_drewN; exact hb)⟩
        · go_roundw
          case rel => exact ⟨k+1, by omega, by go_num, by first | exact hb.trans (hb1.mono hsz) | (apply below_drewN; exact hb), take_succ_eq hlt hlt' HEQ.out (by rw [HX.out, HY.out]; simp_all)⟩
          case measure => simp [intOf]; omega
      · go_wp2
        go_ret
        exact ⟨ret_bool (by symm; rw [decide_eq_true_iff]; have := HEQ.out; rwa [List.take_of_length_le (by omega), List.take_of_length_le (by have := HL.out; omega)] at this), hb⟩
  · have hq : ((l.length : Int) != (m.length : Int)) = true := by simp; omega
    go_enter Try.func25, Try.ntmps25
    go_wp2
    go_ret
    exact ⟨ret_bool (by symm; rw [decide_eq_false_iff_not]; rintro rfl; simp at hlen), Below.refl _ _⟩
theorem rBig_c (a : Option Addr) (n cap : Nat) (w : World) (hn : n ≤ maxLen) : Calls Try.prog 41 #[.slice a n cap] w fun e w' => e = .returned (.bool (decide (65536 < n))) ∧ w = w' := by
  unfold maxLen at hn
  go_enter Try.func41, Try.ntmps41
  go_wp2
  go_ret
  exact ⟨ret_bool (by simp; omega), rfl⟩
theorem vBig_c (a : Option Addr) (n cap : Nat) (w : World) (hn : n ≤ maxLen) : Calls Try.prog 7 #[.slice a n cap] w fun e w' => e = .returned (.bool (decide (65536 < n))) ∧ w = w' := by
  unfold maxLen at hn
  go_enter Try.func7, Try.ntmps7
  go_wp2
  go_ret
  exact ⟨ret_bool (by simp; omega), rfl⟩
end Go.Proofs.Ytcjcgcgcloanpaa

namespace Go.KD
open Go.RowKit
theorem box_at {w wX : World} {T : TypeId} {a b d : Value} {c n : Nat} (h : CuW c n (w.alloc (.cells #[a, b, d] T)) wX) (hc : c < w.heap.size) : wX.cell? ⟨w.heap.size, 0, none⟩ = some a ∧ wX.cell? ⟨w.heap.size, 1, none⟩ = some b ∧ wX.cell? ⟨w.heap.size, 2, none⟩ = some d ∧ w.heap.size < wX.heap.size := by
  obtain ⟨q0, q1, q2, -, -, -, q6⟩ := res_facts rfl h.ch hc
  exact ⟨q0, q1, q2, q6⟩
theorem CuW.box {w wX : World} {o : Obj} {c n n0 : Nat} (h : CuW c n (w.alloc o) wX) (h0 : Cu c n0 w) : CuW c n w wX := ((CuW.refl h0).alloc o).trans h
theorem own_icC {w w' : World} {base lo k : Nat} {e : TypeId} {a : Option Addr} {cp : Nat} {L : List Int} (h : w.ownsRow base e 1 (.slice a L.length cp) L.length (ints L)) (hc : lo ≤ base) (hch : Chg 0 lo w w') : IC w' a L := ic_of' ((Own.of h).chg hch (.inr hc)) rfl
theorem ic_lit0 {w w' : World} {lo k : Nat} {e : TypeId} {cs : Array Value} {l : List Int} (hcs : cs.toList = ints l) (hn : k = l.length) (hm : k ≤ 100) (hc : lo ≤ w.heap.size) (h : Chg 0 lo (w.alloc (.cells cs e)) w') : IC w' (some ⟨w.heap.size, 0, none⟩) l := by
  subst hn
  have hl := World.ownsRow_lit (base := w.heap.size) (e := e) (size := 1) w cs l.length (Nat.le_refl _) (by unfold maxLen; omega) (by have := congrArg List.length hcs; simp at this; omega)
  rw [hcs] at hl
  exact ic_of ((Own.of hl).chg h (.inr (by omega)))
theorem draw_start {w : World} {a : Option Addr} {n cap : Nat} {o : Obj} {T : TypeId} (hb : BC w a n) (hn : n ≤ 65536) : Cu (w.heap.size + 1) 0 ((w.alloc o).alloc (.cells #[.slice a n cap, .int .i64 0, .int .u64 0] T)) := by
  have h := cu_start (cap := cap) (T := T) (hb.later ((Below.refl _ _).alloc (Nat.le_refl _) o)) hn
  rw [show (w.alloc o).heap.size = w.heap.size + 1 from by simp] at h
  exact h
theorem draw_res {w W : World} {n : Nat} {x0 x1 x2 : Value} {T : TypeId} {o : Obj} (h : CuW (w.heap.size + 1) n ((w.alloc (.cells #[x0, x1, x2] T)).alloc o) W) : W.cell? ⟨w.heap.size, 0, none⟩ = some x0 ∧ W.cell? ⟨w.heap.size, 1, none⟩ = some x1 ∧ W.cell? ⟨w.heap.size, 2, none⟩ = some x2 ∧ W.frozen? ⟨w.heap.size, 0, none⟩ = false ∧ W.frozen? ⟨w.heap.size, 1, none⟩ = false ∧ W.frozen? ⟨w.heap.size, 2, none⟩ = false ∧ w.heap.size < W.heap.size := by
  have hz : w.heap.size < ((w.alloc (.cells #[x0, x1, x2] T)).alloc o).heap.size := by simp; omega
  have hne : w.heap.size < w.heap.size + 1 ∨ w.heap.size + 1 + 1 ≤ w.heap.size := .inl (by omega)
  refine ⟨?_, ?_, ?_, ?_, ?_, ?_, Nat.lt_of_lt_of_le hz h.ch.size⟩
  · rw [h.ch.cell (p := ⟨w.heap.size, 0, none⟩) hz hne]; simp [go_sem]
  · rw [h.ch.cell (p := ⟨w.heap.size, 1, none⟩) hz hne]; simp [go_sem]
  · rw [h.ch.cell (p := ⟨w.heap.size, 2, none⟩) hz hne]; simp [go_sem]
  · rw [chg_frozen h.ch hz hne]; simp [go_sem]
  · rw [chg_frozen h.ch hz hne]; simp [go_sem]
  · rw [chg_frozen h.ch hz hne]; simp [go_sem]
theorem draw_below {w W : World} {n : Nat} {o o' : Obj} (h : CuW (w.heap.size + 1) n ((w.alloc o').alloc o) W) : Below w.heap.size w W :=
  (((Below.refl _ _).alloc (Nat.le_refl _) o').alloc (by simp) o).trans (h.ch.below (by omega) (by simp; omega))
theorem chg_set3 {W : World} {r hi : Nat} (hr : r < hi) (x0 x1 x2 : Value) : Chg 0 hi W (((W.setCell ⟨r, 0, none⟩ x0).setCell ⟨r, 1, none⟩ x1).setCell ⟨r, 2, none⟩ x2) :=
  (((Chg.refl _ _ _).setCell (Nat.zero_le _) hr _).setCell (Nat.zero_le _) hr _).setCell (Nat.zero_le _) hr _
theorem below_set3 {w W : World} {r : Nat} (h : Below w.heap.size w W) (hr : w.heap.size ≤ r) (x0 x1 x2 : Value) : Below w.heap.size w (((W.setCell ⟨r, 0, none⟩ x0).setCell ⟨r, 1, none⟩ x1).setCell ⟨r, 2, none⟩ x2) :=
  Below.setCell (Below.setCell (Below.setCell h hr _) hr _) hr _
theorem ic_chgC {w w' : World} {c b off : Nat} {l : List Int} (h : IC w (some ⟨b, off, none⟩) l) (hb : c < b) (hch : Chg c (c + 1) w w') : IC w' (some ⟨b, off, none⟩) l := by
  intro k hk
  obtain ⟨b', off', e, hbs, hc⟩ := h k hk
  cases e
  exact ⟨b, off, rfl, Nat.lt_of_lt_of_le hbs hch.size, by rw [hch.cell (p := ⟨b, off + k, none⟩) hbs (.inr (by show c + 1 ≤ b; omega))]; exact hc⟩
/-- A list that a draw gives, as it reads behind further draws. -/
def PlanQ (c n k : Nat) (w : World) (e : Ending) (w' : World) : Prop := ∃ a cp, ∃ L : List Int, e = .returned (.slice a L.length cp) ∧ (∀ w'', Chg 0 w.heap.size w' w'' → IC w'' a L) ∧ L.length ≤ k ∧ (∀ x ∈ L, wfI x) ∧ CuW c n w w'
theorem box_in {w wX : World} {T : TypeId} {a b d : Value} {c n : Nat} (h : CuW c n (w.alloc (.cells #[a, b, d] T)) wX) (hc : c < w.heap.size) : wX.cell? ⟨w.heap.size, 0, none⟩ = some a ∧ wX.cell? ⟨w.heap.size, 1, none⟩ = some b ∧ wX.cell? ⟨w.heap.size, 2, none⟩ = some d :=
  ⟨(box_at h hc).1, (box_at h hc).2.1, (box_at h hc).2.2.1⟩
theorem box_set {w wX : World} {T : TypeId} {a b d x0 x1 x2 : Value} {c n r : Nat} (h : CuW c n (w.alloc (.cells #[a, b, d] T)) wX) (hc : c < w.heap.size) (hr : r < w.heap.size) : (((wX.setCell ⟨r, 0, none⟩ x0).setCell ⟨r, 1, none⟩ x1).setCell ⟨r, 2, none⟩ x2).cell? ⟨w.heap.size, 0, none⟩ = some a ∧ (((wX.setCell ⟨r, 0, none⟩ x0).setCell ⟨r, 1, none⟩ x1).setCell ⟨r, 2, none⟩ x2).cell? ⟨w.heap.size, 1, none⟩ = some b ∧ (((wX.setCell ⟨r, 0, none⟩ x0).setCell ⟨r, 1, none⟩ x1).setCell ⟨r, 2, none⟩ x2).cell? ⟨w.heap.size, 2, none⟩ = some d := by
  obtain ⟨h0, h1, h2⟩ := box_in h hc
  have hne : r ≠ w.heap.size := by omega
  refine ⟨?_, ?_, ?_⟩
  · rw [set_ne _ _ hne, set_ne _ _ hne, set_ne _ _ hne]; exact h0
  · rw [set_ne _ _ hne, set_ne _ _ hne, set_ne _ _ hne]; exact h1
  · rw [set_ne _ _ hne, set_ne _ _ hne, set_ne _ _ hne]; exact h2
theorem wfI_wrap (x : Int) : wfI (IntKind.i64.wrap x) := by
  have h := wrap64_wf x
  have e : IntKind.i64.wrap x = wrap64 x := by rw [IntKind.wrap_i64]; unfold wrap64; omega
  rw [e]; exact h
theorem res_b {w W : World} {x0 x1 x2 : Value} {T : TypeId} (h : Below (w.heap.size + 1) (w.alloc (.cells #[x0, x1, x2] T)) W) : W.cell? ⟨w.heap.size, 0, none⟩ = some x0 ∧ W.cell? ⟨w.heap.size, 1, none⟩ = some x1 ∧ W.cell? ⟨w.heap.size, 2, none⟩ = some x2 ∧ W.frozen? ⟨w.heap.size, 0, none⟩ = false ∧ W.frozen? ⟨w.heap.size, 1, none⟩ = false ∧ W.frozen? ⟨w.heap.size, 2, none⟩ = false ∧ w.heap.size < W.heap.size := by
  refine ⟨?_, ?_, ?_, ?_, ?_, ?_, by have := h.size; simp at this; omega⟩
  · rw [h.cell (p := ⟨w.heap.size, 0, none⟩) (by simp)]; simp [go_sem]
  · rw [h.cell (p := ⟨w.heap.size, 1, none⟩) (by simp)]; simp [go_sem]
  · rw [h.cell (p := ⟨w.heap.size, 2, none⟩) (by simp)]; simp [go_sem]
  · rw [h.frozen (p := ⟨w.heap.size, 0, none⟩) (by simp)]; simp [go_sem]
  · rw [h.frozen (p := ⟨w.heap.size, 1, none⟩) (by simp)]; simp [go_sem]
  · rw [h.frozen (p := ⟨w.heap.size, 2, none⟩) (by simp)]; simp [go_sem]
end Go.KD

namespace Go.KD
open Go.RowKit
variable {c n base g s4 ng : Nat} {e4 e1 : TypeId} {w W W2 : World} {sz : Int} {xg : List Value} {vg vp : Value} {pl : List Int}
theorem WB.cp {bp cp j : Nat} {z : Int} (h : WB c n base g e4 e1 s4 w W sz xg ng vg pl (.slice (some ⟨bp, 0, none⟩) pl.length cp)) (hj : j < pl.length) (hz : z = pl[j]!) : W.cell? ⟨bp, j, none⟩ = some (.int .i64 z) ∧ W.frozen? ⟨bp, j, none⟩ = false ∧ bp < W.heap.size := by
  obtain ⟨x, hx, h1, h2⟩ := own_int h.rp j hj
  rw [hz, ← hx]
  exact ⟨h1, h2, Own.block_lt h.rp rfl⟩
theorem WB.mz {gl : List D3} (h : WB c n base g 39 3 3 w W sz (c3 gl) gl.length vg pl vp) (h1 : gl.length ≤ 40) (h2 : pl.length ≤ 40) : MzAt W (.agg #[.int .i64 sz, vg, vp]) ⟨sz, gl, pl⟩ :=
  MazeO.at (base := base) (m := ⟨sz, gl, pl⟩) (W := W) ⟨vg, vp, rfl, h.rg, h.rp, h.ap⟩ h1 h2 _ (Chg.refl _ _ _)
end Go.KD
namespace Go.Proofs.Ytcjcgcgcloanpaa
open Go.RowKit Go.KD
attribute [local go_sem] later_cell later_frozen
/-- A door is put into a list of doors that stands apart. -/
theorem l2PutL_c (base b0 cap : Nat) (l : List D3) (xa xb z : Int) (w : World) (hO : w.ownsRow base 39 3 (.slice (some ⟨b0, 0, none⟩) l.length cap) l.length (c3 l)) (hbw : base ≤ w.heap.size) (hl : l.length ≤ 100) :
    Calls Try.prog 146 #[.slice (some ⟨b0, 0, none⟩) l.length cap, .int .i64 xa, .int .i64 xb, .int .i64 z] w fun e w' => ∃ l' : List D3, ∃ g' c', e = .returned (.slice (some ⟨g', 0, none⟩) l'.length c') ∧ l'.length ≤ l.length + 1 ∧ w'.ownsRow base 39 3 (.slice (some ⟨g', 0, none⟩) l'.length c') l'.length (c3 l') ∧ Below w.heap.size w w' := by
  obtain ⟨q1, q2, q3, q4, q5⟩ := own_someP hO
  refine (l2PutO_c base b0 0 cap l.length rfl l xa xb z w hO hbw rfl q1 q5 q2 q3 (by omega)).mono ?_
  rintro e w9 ⟨gl9, g9, cp9, rfl, hlen9, ho9, ha9, hb9⟩
  exact ⟨gl9, g9, cp9, rfl, hlen9, ho9, hb9⟩
set_option maxRecDepth 100000 in
set_option maxHeartbeats 8000000 in
theorem locked7_c (c n : Nat) (hn : n ≤ 400000) (w : World) (h : Cu c n w) : Calls Try.prog 70 #[.pointer (some ⟨c, 0, none⟩)] w (MazeP c (n + 2000) w) := by
  have HC := Lib.hid h
  have hcz := h.lt
  clear h
  obtain ⟨wr0, hwr0⟩ : ∃ wr0, wr0 = w.alloc (.cells #[.int .i64 0, .slice none 0 0, .slice none 0 0] 27) := ⟨_, rfl⟩
  have HWR0 := Lib.hid hwr0
  have HS0 : Hid (wr0.heap.size = w.heap.size + 1) := by show _ = _; rw [hwr0]; simp
  have HCR : Hid (CuW c n w wr0) := by show CuW c n w wr0; rw [hwr0]; exact (CuW.refl HC.out).alloc _
  clear hwr0
  have hcr : c < wr0.heap.size := HCR.out.cu.lt
  go_enter Try.func70, Try.ntmps70
  go_wp2_with fail
  rw [← HWR0.out]
  refine (among_c c n 8 8 _ [5, 4, 6, 3, 7, 2, 8, 1] rfl (by omega) (by omega) (by omega) _ (HCR.out.cu.later ((Below.refl _ _).alloc (Nat.le_refl _) _) hcr) (fun w' hc => ic_litC rfl rfl (by decide) hcr hc HS0.out)).mono ?_
  rintro e w1 ⟨x, rfl, hx, hc1, hu1⟩
  obtain ⟨s0, rfl, h1, h12⟩ : ∃ j : Nat, x = j ∧ 1 ≤ j ∧ j ≤ 12 := by simp at hx; exact ⟨x.toNat, by omega, by omega, by omega⟩
  have HW1 : Hid (CuW c (n + 2) wr0 w1) := ((CuW.refl HCR.out.cu).alloc _).trans ⟨hc1, hu1⟩
  clear hx hc1 hu1
  have HZ1 : Hid (w.heap.size < w1.heap.size) := by have := HW1.out.ch.size; have := HS0.out; show _ < _; omega
  go_wp2_with fail
  refine (someMaze_c c (n + 2) s0 h1 h12 (by omega) _ HW1.out.cu).mono ?_
  rintro e w2 ⟨v, m, rfl, hst, hd, hk, hs, hW⟩
  obtain ⟨mz, gl0, pl0⟩ := m
  dsimp only at hd hk hs
  have hst2 := hst
  obtain ⟨vg, vp, rfl, hr1, hr2, -⟩ := hst2
  dsimp only at hr1 hr2
  obtain ⟨ag, cg, rfl⟩ := own_slice hr1
  obtain ⟨ak, ck, rfl⟩ := own_slice hr2
  have HWB0 := Lib.hid (WB.ofM (T := 27) hst HW1.out.cu.lt hW)
  clear hst hr1 hr2 hW
  go_wp2_with fail
  obtain ⟨g, hg⟩ : ∃ g, g = w2.heap.size := ⟨_, rfl⟩
  rw [← hg] at HWB0 ⊢
  have HG := Lib.hid hg
  clear hg
  refine (l2Maze_c _ ⟨mz, gl0, pl0⟩ _ (WB.mz HWB0.out hd hk)).mono ?_
  rintro e w4 ⟨rfl, hb4⟩
  have HWB4 := Lib.hid (HWB0.out.below hb4 (Nat.le_refl _))
  clear hb4 HWB0
  obtain ⟨bm, hbm⟩ : ∃ bm, bm = mazeB ⟨mz, gl0, pl0⟩ := ⟨_, rfl⟩
  rw [← hbm]
  have HBM := Lib.hid hbm
  clear hbm
  cases bm
  · skip
    have g0 := HWB4.out.c0
    have g1 := HWB4.out.c1
    have g2 := HWB4.out.c2
    have gz := HWB4.out.gz
    obtain ⟨q0, q1, q2, q3, q4, q5, q6⟩ := res_facts HWR0.out (HW1.out.ch.trans HWB4.out.cu.ch) hcz
    obtain ⟨hA, hB⟩ := maze_endV HWB4.out (HCR.out.trans HW1.out) (r := w.heap.size) HZ1.out hcz (Nat.le_refl _) (.int .i64 mz) (.slice ag gl0.length cg) (.slice ak pl0.length ck)
    have HA := Lib.hid hA
    have HBB := Lib.hid hB
    clear hA hB
    go_wp2_with fail
    exact bodyPost_ret (v := .agg #[.int .i64 mz, (.slice ag gl0.length cg), (.slice ak pl0.length ck)]) (by simp [results, Try.results70, go_sem, q0, q1, q2, q3, q4, q5, q6]) rfl ⟨_, ⟨mz, gl0, pl0⟩, rfl, HA.out, hd, hk, hs, HBB.out.mono (by omega)⟩
  · go_wp2_with fail
    refine (one_c c (n + 2 + 1000) 16 (by omega) (by omega) (by omega) _ HWB4.out.cu.cu).mono ?_
    rintro e w5 ⟨b5, rfl, hc5, hu5⟩
    have HWB5 := Lib.hid (HWB4.out.draw ⟨hc5, hu5⟩)
    clear hc5 hu5 HWB4
    cases b5
    · have hok := mazeB_true.1 HBM.out.symm
      obtain ⟨o1, o2, o3, o4⟩ : 1 ≤ mz ∧ mz ≤ 12 ∧ gl0.length ≤ 30 ∧ (pl0.length : Int) = mz := by
        have a1 := hok.s1
        have a2 := hok.s2
        have a3 := hok.nd
        have a4 := hok.nk
        dsimp only at a1 a2 a3 a4
        exact ⟨a1, a2, a3, by omega⟩
      obtain ⟨sz, rfl⟩ : ∃ sz : Nat, mz = (sz : Int) := ⟨mz.toNat, by omega⟩
      have hpl0 : pl0.length = sz := by omega
      have hsz1 : 1 ≤ sz := by omega
      have hsz12 : sz ≤ 12 := by omega
      clear hok o1 o2 o4 hd hk hs HBM
      obtain ⟨bp, cpX, hv, -, -⟩ := own_someS HWB5.out.rp (by omega)
      cases hv
      go_wp2_with fail
      go_loopw [4] (fun v wr => ∃ k : Nat, ∃ pl : List Int, v = .int .i64 k ∧ k ≤ sz ∧ pl.length = sz ∧ Hid (WB c (n + 1004 + 4 * k) w1.heap.size g 39 3 3 w1 wr (sz : Int) (c3 gl0) gl0.length (.slice ag gl0.length cg) pl (.slice (some ⟨bp, 0, none⟩) pl.length ck))) (fun v _ => sz - (intOf v).toNat)
      case atStart => exact ⟨0, pl0, rfl, Nat.zero_le _, hpl0, HWB5.out.mono (by omega)⟩
      case round =>
        clear HWB5 hpl0
        obtain ⟨wo, rfl⟩ : ∃ wo : World, wo = wr := ⟨_, rfl⟩
        obtain ⟨k, pl, rfl, hk, hpl, HWB⟩ := hrel
        have g0 := HWB.out.c0
        by_cases hlt : k < sz
        · have hkI : (k : Int) < (sz : Int) := by omega
          have hk0 : (0 : Int) ≤ (k : Int) := by omega
          have hkp : k < pl.length := by omega
          have hkpI : (k : Int) < (pl.length : Int) := by omega
          go_wp2_with fail
          clear g0
          refine (one_c c (n + 1004 + 4 * k) 2 (by omega) (by omega) (by omega) _ HWB.out.cu.cu).mono ?_
          rintro e w6 ⟨b6, rfl, hc6, hu6⟩
          have HWB6 := Lib.hid (HWB.out.draw ⟨hc6, hu6⟩)
          clear hc6 hu6 HWB
          cases b6
          · go_wp2_with fail
            go_roundw
            case rel => exact ⟨k + 1, pl, by go_num, by omega, hpl, HWB6.out.mono (by omega)⟩
            case measure => simp [intOf]; omega
          · obtain ⟨z, hz⟩ : ∃ z, z = pl[k]! := ⟨_, rfl⟩
            have HZ := Lib.hid hz
            clear hz
            have HWBd := Lib.hid HWB6.out.drew
            have e2 := HWBd.out.c2
            obtain ⟨d0, d1, d2⟩ := HWBd.out.cp hkp HZ.out
            go_upto_region 8 with fail
            go_region_with
              (first
                | (go_at_call 145; (with_reducible refine (pickJ_c c (n + 1004 + 4 * k + 2) 3 3 (by omega) (by omega) (by omega) (by omega) _ HWBd.out.cu.cu).mono ?_); rintro e w7 ⟨r7, rfl, hr7, hc7, hu7⟩; have HWB7 := Lib.hid (HWBd.out.draw ⟨hc7, hu7⟩); have e7 := HWB7.out.c2; obtain ⟨t0, t1, t2⟩ := HWB7.out.cp hkp HZ.out; obtain ⟨p, HP, ep, hp⟩ := shl_at r7 (by omega); have hr63 : (r7 : Int) < 64 := (by omega); have hr0 : (0 : Int) ≤ (r7 : Int) := (by omega); clear hc7 hu7))
            all_goals
              go_wp2_with fail
              go_roundw
              case rel => exact ⟨k + 1, pl.set k _, by go_num, by omega, by rw [List.length_set]; exact hpl, HWB7.out.setp.mono (by omega)⟩
              case measure => simp [intOf]; omega
        · obtain rfl : k = sz := by omega
          have hpl12 : pl.length ≤ 12 := by omega
          clear hpl
          have HBP : Hid (bp < wo.heap.size) := Own.block_lt HWB.out.rp rfl
          have HGL : Hid (g < wo.heap.size) := HWB.out.gz
          have HBL : Hid (w1.heap.size ≤ wo.heap.size) := Nat.le_of_lt (Nat.lt_of_le_of_lt HWB.out.gb HWB.out.gz)
          have HCL : Hid (c < wo.heap.size) := HWB.out.cu.cu.lt
          have HWBA := Lib.hid (HWB.out.alloc (.cells #[] 39))
          have HDA : Hid ((wo.alloc (.cells #[] 39)).ownsRow wo.heap.size 39 3 (.slice (some ⟨wo.heap.size, 0, none⟩) 0 0) 0 (c3 [])) := own_emptyG (heap_alloc_last wo _) (Nat.le_refl _)
          go_wp2_with fail
          clear g0 HWB
          obtain ⟨lo, hlo⟩ : ∃ lo, lo = wo.heap.size := ⟨_, rfl⟩
          rw [← hlo] at HBP HGL HBL HCL HDA ⊢
          clear hlo
          go_loopw [6, 5] (fun kv dv wr => ∃ j : Nat, ∃ gl : List D3, ∃ b cp', kv = .int .i64 j ∧ j ≤ gl0.length ∧ gl.length ≤ j ∧ dv = .slice (some ⟨b, 0, none⟩) gl.length cp' ∧ Hid (WB c (n + 1100 + 6 * j) w1.heap.size g 39 3 3 w1 wr (k : Int) (c3 gl0) gl0.length (.slice ag gl0.length cg) pl (.slice (some ⟨bp, 0, none⟩) pl.length ck)) ∧ Hid (lo ≤ wr.heap.size ∧ wr.ownsRow lo 39 3 (.slice (some ⟨b, 0, none⟩) gl.length cp') gl.length (c3 gl))) (fun kv _ _ => gl0.length - (intOf kv).toNat)
          case atStart => exact ⟨0, [], _, _, rfl, Nat.zero_le _, Nat.zero_le _, rfl, HWBA.out.mono (by omega), by have := HWBA.out.gz; exact Nat.le_of_lt (Nat.lt_of_lt_of_le (Own.block_lt HDA.out rfl) (Nat.le_refl _)), HDA.out⟩
          case round =>
            clear HWBA HDA
            obtain ⟨wi, rfl⟩ : ∃ wi : World, wi = wr := ⟨_, rfl⟩
            obtain ⟨j, gl, b, cp', rfl, hj, hgl, rfl, HWB, HDR⟩ := hrel
            have g1 := HWB.out.c1
            by_cases hlt2 : j < gl0.length
            · have hjI : (j : Int) < (gl0.length : Int) := by omega
              have hj0 : (0 : Int) ≤ (j : Int) := by omega
              obtain ⟨bg, cgX, hv, -, -⟩ := own_someS HWB.out.rg (by omega)
              cases hv
              obtain ⟨y0, y1, y2, d0, d1, d2, f0, f1, f2, bz, bne⟩ := HWB.out.cel3 hlt2
              go_upto_region 14 with fail
              clear g1 d0 d1 d2 f0 f1 f2 bz
              go_cut [70] (fun s wx => ∃ q : Bool, s = .bool q ∧ Hid (WB c (n + 1100 + 6 * j + 4) w1.heap.size g 39 3 3 w1 wx (k : Int) (c3 gl0) gl0.length (.slice (some ⟨bg, 0, none⟩) gl0.length cg) pl (.slice (some ⟨bp, 0, none⟩) pl.length ck)) ∧ Hid (lo ≤ wx.heap.size ∧ wx.ownsRow lo 39 3 (.slice (some ⟨b, 0, none⟩) gl.length cp') gl.length (c3 gl)))
              case first =>
                by_cases hy : y2 = 0
                · have hy0 : (y2 == 0) = true := by simp [hy]
                  clear hy
                  go_wp2_with fail
                  refine (one_c c (n + 1100 + 6 * j) 2 (by omega) (by omega) (by omega) _ HWB.out.cu.cu).mono ?_
                  rintro e w7 ⟨b7, rfl, hc7, hu7⟩
                  have HWB7 := Lib.hid (HWB.out.draw ⟨hc7, hu7⟩)
                  have HDR7 : Hid (lo ≤ w7.heap.size ∧ w7.ownsRow lo 39 3 (.slice (some ⟨b, 0, none⟩) gl.length cp') gl.length (c3 gl)) := ⟨Nat.le_trans HDR.out.1 hc7.size, own_chgC HDR.out.2 hc7 HCL.out⟩
                  clear hc7 hu7 hy0
                  cases b7
                  · by_cases h7 : gl.length < 7
                    · have h7I : (gl.length : Int) < 7 := by omega
                      go_wp2_with fail
                      refine (one_c c (n + 1100 + 6 * j + 2) 3 (by omega) (by omega) (by omega) _ HWB7.out.cu.cu).mono ?_
                      rintro e w8 ⟨b8, rfl, hc8, hu8⟩
                      have HWB8 := Lib.hid (HWB7.out.draw ⟨hc8, hu8⟩)
                      have HDR8 : Hid (lo ≤ w8.heap.size ∧ w8.ownsRow lo 39 3 (.slice (some ⟨b, 0, none⟩) gl.length cp') gl.length (c3 gl)) := ⟨Nat.le_trans HDR7.out.1 hc8.size, own_chgC HDR7.out.2 hc8 HCL.out⟩
                      clear hc8 hu8
                      go_wp2_with fail
                      go_meet
                      case rel => exact ⟨b8, rfl, HWB8.out.mono (by omega), HDR8⟩
                    · have h7I : ¬ ((gl.length : Int) < 7) := by omega
                      go_wp2_with fail
                      go_meet
                      case rel => exact ⟨false, rfl, HWB7.out.mono (by omega), HDR7⟩
                  · go_wp2_with fail
                    go_meet
                    case rel => exact ⟨true, rfl, HWB7.out.mono (by omega), HDR7⟩
                · have hy0 : (y2 == 0) = false := by simp [hy]
                  clear hy
                  by_cases h7 : gl.length < 7
                  · have h7I : (gl.length : Int) < 7 := by omega
                    go_wp2_with fail
                    refine (one_c c (n + 1100 + 6 * j) 3 (by omega) (by omega) (by omega) _ HWB.out.cu.cu).mono ?_
                    rintro e w8 ⟨b8, rfl, hc8, hu8⟩
                    have HWB8 := Lib.hid (HWB.out.draw ⟨hc8, hu8⟩)
                    have HDR8 : Hid (lo ≤ w8.heap.size ∧ w8.ownsRow lo 39 3 (.slice (some ⟨b, 0, none⟩) gl.length cp') gl.length (c3 gl)) := ⟨Nat.le_trans HDR.out.1 hc8.size, own_chgC HDR.out.2 hc8 HCL.out⟩
                    clear hc8 hu8
                    go_wp2_with fail
                    go_meet
                    case rel => exact ⟨b8, rfl, HWB8.out.mono (by omega), HDR8⟩
                  · have h7I : ¬ ((gl.length : Int) < 7) := by omega
                    go_wp2_with fail
                    go_meet
                    case rel => exact ⟨false, rfl, HWB.out.mono (by omega), HDR⟩
              case rest =>
                clear HWB HDR
                obtain ⟨w8, rfl⟩ : ∃ w8 : World, w8 = wc := ⟨_, rfl⟩
                obtain ⟨q, rfl, HWB8, HDR8⟩ := hcut
                go_upto_if 70 with fail
                go_cut [7] (fun s wx => ∃ z : Int, s = .int .i64 z ∧ Hid (WB c (n + 1100 + 6 * j + 6) w1.heap.size g 39 3 3 w1 wx (k : Int) (c3 gl0) gl0.length (.slice (some ⟨bg, 0, none⟩) gl0.length cg) pl (.slice (some ⟨bp, 0, none⟩) pl.length ck)) ∧ Hid (lo ≤ wx.heap.size ∧ wx.ownsRow lo 39 3 (.slice (some ⟨b, 0, none⟩) gl.length cp') gl.length (c3 gl)))
                case first =>
                  cases q
                  · go_wp2_with fail
                    go_meet
                    case rel => exact ⟨y2, rfl, HWB8.out.mono (by omega), HDR8⟩
                  · go_wp2_with fail
                    refine (pick_c c (n + 1100 + 6 * j + 4) 3 (by omega) (by omega) (by omega) _ HWB8.out.cu.cu).mono ?_
                    rintro e w9 ⟨r9, rfl, hr9, hc9, hu9⟩
                    have HWB9 := Lib.hid (HWB8.out.draw ⟨hc9, hu9⟩)
                    have HDR9 : Hid (lo ≤ w9.heap.size ∧ w9.ownsRow lo 39 3 (.slice (some ⟨b, 0, none⟩) gl.length cp') gl.length (c3 gl)) := ⟨Nat.le_trans HDR8.out.1 hc9.size, own_chgC HDR8.out.2 hc9 HCL.out⟩
                    clear hc9 hu9
                    obtain ⟨p, HP, ep, hp⟩ := shl_at r9 (by omega)
                    have hr63 : (r9 : Int) < 64 := by omega
                    have hr0 : (0 : Int) ≤ (r9 : Int) := by omega
                    go_wp2_with fail
                    go_meet
                    case rel => exact ⟨_, rfl, HWB9.out, HDR9⟩
                case rest =>
                  clear HWB8 HDR8
                  obtain ⟨w9, rfl⟩ : ∃ w9 : World, w9 = wc := ⟨_, rfl⟩
                  obtain ⟨z, rfl, HWB9, HDR9⟩ := hcut
                  have HWBd := Lib.hid HWB9.out.drew
                  have HDRd : Hid (lo ≤ w9.drew.heap.size ∧ w9.drew.ownsRow lo 39 3 (.slice (some ⟨b, 0, none⟩) gl.length cp') gl.length (c3 gl)) := ⟨by have := HDR9.out.1; simpa using this, own_belowW' HDR9.out.2 (Below.refl _ _).drew⟩
                  obtain ⟨z0, z1, z2, d0, d1, d2, f0, f1, f2, bz, bne⟩ := HWBd.out.cel3 hlt2
                  have e1 := HWBd.out.c1
                  go_upto_region 16 with fail
                  go_region_with (go_at_call 146; (with_reducible refine (l2PutL_c lo b cp' gl _ _ _ _ HDRd.out.2 HDRd.out.1 (by omega)).mono ?_); rintro e wA ⟨glA, gA, cpA, rfl, hglA, hoA, hbA⟩; have HWBA := Lib.hid (HWBd.out.below hbA (Nat.le_refl _)); have HDRA : Hid (lo ≤ wA.heap.size ∧ wA.ownsRow lo 39 3 (.slice (some ⟨gA, 0, none⟩) glA.length cpA) glA.length (c3 glA)) := ⟨Nat.le_trans HDRd.out.1 hbA.size, hoA⟩; clear hoA hbA)
                  all_goals
                    clear d0 d1 d2 f0 f1 f2 bz e1
                    go_wp2_with fail
                    go_roundw
                    case rel => exact ⟨j + 1, glA, gA, cpA, by go_num, by omega, by omega, rfl, HWBA.out.mono (by omega), HDRA⟩
                    case measure => simp [intOf]; omega
            · obtain rfl : j = gl0.length := by omega
              have gz := HWB.out.gz
              have g1f := HWB.out.fz 1 (by omega)
              go_upto_region 18 with fail
              have HWB8 := Lib.hid (HWB.out.first2 HDR.out.2 HBL.out HGL.out (fun b' hb' => by
                have : bp = b' := by simpa [Value.ownBlock] using hb'
                rw [← this]; exact HBP.out))
              clear g1 g1f gz HWB
              obtain ⟨w8, hw8⟩ : ∃ w8, w8 = wi.setCell ⟨g, 1, none⟩ (.slice (some ⟨b, 0, none⟩) gl.length cp') := ⟨_, rfl⟩
              rw [← hw8] at HWB8 ⊢
              clear hw8
              have g0 := HWB8.out.c0
              have g1 := HWB8.out.c1
              have g2 := HWB8.out.c2
              have gz := HWB8.out.gz
              obtain ⟨q0, q1, q2, q3, q4, q5, q6⟩ := res_facts HWR0.out (HW1.out.ch.trans HWB8.out.cu.ch) hcz
              obtain ⟨hA, hB⟩ := maze_endV HWB8.out (HCR.out.trans HW1.out) (r := w.heap.size) HZ1.out hcz (Nat.le_refl _) (.int .i64 (k : Int)) (.slice (some ⟨b, 0, none⟩) gl.length cp') (.slice (some ⟨bp, 0, none⟩) pl.length ck)
              have HA := Lib.hid hA
              have HBB := Lib.hid hB
              clear hA hB
              go_wp2_with fail
              exact bodyPost_ret (v := .agg #[.int .i64 (k : Int), (.slice (some ⟨b, 0, none⟩) gl.length cp'), (.slice (some ⟨bp, 0, none⟩) pl.length ck)]) (by simp [results, Try.results70, go_sem, q0, q1, q2, q3, q4, q5, q6]) rfl ⟨_, ⟨(k : Int), gl, pl⟩, rfl, HA.out, by dsimp only; omega, by dsimp only; omega, by dsimp only; omega, HBB.out.mono (by omega)⟩
    · skip
      have g0 := HWB5.out.c0
      have g1 := HWB5.out.c1
      have g2 := HWB5.out.c2
      have gz := HWB5.out.gz
      obtain ⟨q0, q1, q2, q3, q4, q5, q6⟩ := res_facts HWR0.out (HW1.out.ch.trans HWB5.out.cu.ch) hcz
      obtain ⟨hA, hB⟩ := maze_endV HWB5.out (HCR.out.trans HW1.out) (r := w.heap.size) HZ1.out hcz (Nat.le_refl _) (.int .i64 mz) (.slice ag gl0.length cg) (.slice ak pl0.length ck)
      have HA := Lib.hid hA
      have HBB := Lib.hid hB
      clear hA hB
      go_wp2_with fail
      exact bodyPost_ret (v := .agg #[.int .i64 mz, (.slice ag gl0.length cg), (.slice ak pl0.length ck)]) (by simp [results, Try.results70, go_sem, q0, q1, q2, q3, q4, q5, q6]) rfl ⟨_, ⟨mz, gl0, pl0⟩, rfl, HA.out, hd, hk, hs, HBB.out.mono (by omega)⟩
end Go.Proofs.Ytcjcgcgcloanpaa

namespace Go.KD
open Go.RowKit
theorem hid_step {p : Nat → Prop} {k : Nat} (h : Hid (∀ j, j < k → p j)) (hk : p k) : Hid (∀ j, j < k + 1 → p j) := by
  intro j hj
  rcases Nat.lt_or_ge j k with h' | h'
  · exact h.out j h'
  · obtain rfl : j = k := by omega
    exact hk
theorem own_below {w w' : World} {lo size n : Nat} {e : TypeId} {v : Value} {xs : List Value} (h : w.ownsRow lo e size v n xs) (hb : Below w.heap.size w w') : w'.ownsRow lo e size v n xs := ((Own.of h).later hb (Nat.le_refl _)).row
def joinsB (x y : Int) (d : D3) : Bool := (d.1 == x && d.2.1 == y) || (d.1 == y && d.2.1 == x)
theorem opnD_eq (x y : Int) (s : Nat) (d : D3) : opnD x y s d = (joinsB x y d && subB d.2.2.toNat s) := rfl
theorem opn_none {m : Mz} {x y : Int} {s : Nat} (h : ∀ k, k < m.doors.length → opnD x y s m.doors[k]! = false) : opnB m x y s = false := by
  rw [Bool.eq_false_iff, ne_eq, opnB_iff]
  rintro ⟨k, hk, h'⟩
  rw [h k hk] at h'; cases h'
theorem memK_end0 {x : Nat} {s : Nat} (hs : s ≤ 40) (h : InM ⟨s, [], []⟩ x) : memK x s = mem x := memK_all hs fun i hi => by have : (i : Int) < s := h i hi; omega
theorem keysL_yes {m : Mz} {n k : Nat} (h : n.testBit k = true) : keysL m (memK n (k + 1)) = keysL m (memK n k) ||| m.keys[k]!.toNat := by rw [memK_yes h, keysL_snoc]; simp
theorem keysL_no {m : Mz} {n k : Nat} (h : n.testBit k = false) : keysL m (memK n (k + 1)) = keysL m (memK n k) := by rw [memK_no h]
theorem nexN_no {m : Mz} (ok : MzOk m) {n y : Nat} (hn : n < 4096) (h : n.testBit y = true) : (nexN m n).testBit y = false := by
  rw [Bool.eq_false_iff, ne_eq, nexN_bit ok hn]
  rintro ⟨h', _⟩
  rw [h] at h'; cases h'
end Go.KD
namespace Go.Proofs.Ytcjcgcgcloanpaa
open Go.RowKit Go.KD
attribute [local go_sem] later_cell later_frozen
theorem l2Has_c (s o : Nat) (hs : s < 4096) (ho : o < 4096) (w : World) : Calls Try.prog 173 #[.int .i64 s, .int .i64 o] w fun e w' => e = .returned (.bool (subB o s)) ∧ w = w' := by
  have ha : bits .and .i64 (s : Int) (o : Int) = ((s &&& o : Nat) : Int) := i64_and s o (by omega) (by omega)
  obtain ⟨y, hy⟩ : ∃ y, y = s &&& o := ⟨_, rfl⟩
  rw [← hy] at ha
  have HY := Lib.hid hy; clear hy
  go_enter Try.func173, Try.ntmps173
  go_wp2
  go_ret
  exact ⟨ret_bool (by rw [← subB_and, ← HY.out, Bool.eq_iff_iff]; simp; omega), rfl⟩
set_option maxHeartbeats 1000000 in
theorem l2Joins_c (a b c x y : Int) (w : World) : Calls Try.prog 187 #[.agg #[.int .i64 a, .int .i64 b, .int .i64 c], .int .i64 x, .int .i64 y] w fun e w' => e = .returned (.bool (joinsB x y (a, b, c))) ∧ Below w.heap.size w w' := by
  cases p1 : (a == x) <;> cases p2 : (b == y) <;> cases p3 : (a == y) <;> cases p4 : (b == x)
  all_goals
    have HR : Hid (joinsB x y (a, b, c) = ((a == x && b == y) || (a == y && b == x))) := rfl
    rw [p1, p2, p3, p4] at HR
    go_enter Try.func187, Try.ntmps187
    go_wp2
    go_ret
    exact ⟨ret_bool (by rw [HR.out]; rfl), (Below.refl _ _).alloc (Nat.le_refl _) _⟩
set_option maxHeartbeats 2000000 in
theorem l2Open_c (v : Value) (m : Mz) (x y : Int) (l : Nat) (w : World) (hm : MzAt w v m) (ok : MzOk m) (hl : l < 64) :
    Calls Try.prog 169 #[v, .int .i64 x, .int .i64 y, .int .i64 l] w fun e w' => e = .returned (.bool (opnB m x y l)) ∧ Below w.heap.size w w' := by
  have hM := hm
  obtain ⟨⟨ad, cd, ak, ck, rfl, hd, hk'⟩, nd, nk⟩ := hM
  have hng := ok.nd
  have OK := Lib.hid ok; clear ok
  go_enter Try.func169, Try.ntmps169
  go_wp2
  go_loopw [9] (fun i wr => ∃ k : Nat, k ≤ m.doors.length ∧ i = .int .i64 k ∧ Below (w.heap.size + 1) (w.alloc (.cells #[.int .i64 m.size, .slice ad m.doors.length cd, .slice ak m.keys.length ck] 27)) wr ∧ Hid (∀ j, j < k → opnD x y l m.doors[j]! = false)) (fun i _ => m.doors.length - (intOf i).toNat)
  case atStart => exact ⟨0, Nat.zero_le _, rfl, Below.refl _ _, fun j hj => absurd hj (Nat.not_lt_zero j)⟩
  case round =>
    obtain ⟨wo, rfl⟩ : ∃ wo : World, wo = wr := ⟨_, rfl⟩
    obtain ⟨k, hkl, rfl, hb, HJ⟩ := hrel
    have HBo := Lib.hid hb
    have HB : Hid (Below w.heap.size w wo) := below_box hb (by omega)
    obtain ⟨q0, q1, q2, z1⟩ := box3 hb (by omega)
    by_cases hlt : k < m.doors.length
    · obtain ⟨b, off, x0, y0, z0, rfl, HX, hbs, e0, e1, e2⟩ := (hd.later HB.out).at k hlt
      obtain ⟨f1, f2, f3, f4, f5⟩ := door_facts OK.out hlt HX.out
      obtain ⟨zn, rfl⟩ := Int.eq_ofNat_of_zero_le f4
      have HD : Hid (opnD x y l m.doors[k]! = (joinsB x y (x0, y0, (zn : Int)) && subB zn l)) := by show _ = _; rw [HX.out, opnD_eq]; rfl
      have hk0 : (k : Int) < (m.doors.length : Int) := by omega
      clear hb
      cases p1 : joinsB x y (x0, y0, (zn : Int))
      · go_wp2_with (go_at_call 187; refine (l2Joins_c _ _ _ _ _ _).mono ?_; rintro e w2 ⟨rfl, hb2⟩; rw [p1])
        go_roundw
        case rel => exact ⟨k + 1, by omega, by go_num, (HBo.out.trans (hb2.mono (by omega))), hid_step HJ (by rw [HD.out, p1]; rfl)⟩
        case measure => simp [intOf]; omega
      · cases p2 : subB zn l
        · go_wp2_with (first | (go_at_call 187; refine (l2Joins_c _ _ _ _ _ _).mono ?_; rintro e w2 ⟨rfl, hb2⟩; rw [p1]; have HB2 : Hid (Below (w.heap.size + 1) (w.alloc (.cells #[.int .i64 m.size, .slice (some ⟨b, off, none⟩) m.doors.length cd, .slice ak m.keys.length ck] 27)) w2) := HBo.out.trans (hb2.mono (by omega)); clear q0 q1 q2; obtain ⟨q0, q1, q2, z2⟩ := box3 HB2.out (by omega); replace e2 := (hb2.cell (p := ⟨_, _, none⟩) hbs).trans e2) | (go_at_call 173; refine (l2Has_c _ _ (by omega) (by omega) _).mono ?_; rintro e w3 ⟨rfl, rfl⟩; rw [p2]))
          go_roundw
          case rel => exact ⟨k + 1, by omega, by go_num, HB2.out, hid_step HJ (by rw [HD.out, p1, p2]; rfl)⟩
          case measure => simp [intOf]; omega
        · go_wp2_with (first | (go_at_call 187; refine (l2Joins_c _ _ _ _ _ _).mono ?_; rintro e w2 ⟨rfl, hb2⟩; rw [p1]; have HB2 : Hid (Below (w.heap.size + 1) (w.alloc (.cells #[.int .i64 m.size, .slice (some ⟨b, off, none⟩) m.doors.length cd, .slice ak m.keys.length ck] 27)) w2) := HBo.out.trans (hb2.mono (by omega)); clear q0 q1 q2; obtain ⟨q0, q1, q2, z2⟩ := box3 HB2.out (by omega); replace e2 := (hb2.cell (p := ⟨_, _, none⟩) hbs).trans e2) | (go_at_call 173; refine (l2Has_c _ _ (by omega) (by omega) _).mono ?_; rintro e w3 ⟨rfl, rfl⟩; rw [p2]))
          go_ret
          exact ⟨ret_bool (opnB_iff.2 ⟨k, hlt, by rw [HD.out, p1, p2]; rfl⟩).symm, below_box HB2.out (by omega)⟩
    · obtain rfl : k = m.doors.length := by omega
      go_wp2
      go_ret
      exact ⟨ret_bool (opn_none HJ.out).symm, HB.out⟩
end Go.Proofs.Ytcjcgcgcloanpaa

namespace Go.KD
open Go.RowKit
def openK (ds : List D3) (O k : Nat) : Bool := decide (ds[k]!.2.2 = 0) || O.testBit k
def nearD (ds : List D3) (O out k : Nat) : Nat :=
  if openK ds O k && (out.testBit ds[k]!.1.toNat != out.testBit ds[k]!.2.1.toNat) then setN (setN out ds[k]!.1) ds[k]!.2.1 else out
def passK (ds : List D3) (O out : Nat) : Nat → Nat
  | 0 => out
  | k + 1 => nearD ds O (passK ds O out k) k
def passN (m : Mz) (O out : Nat) : Nat := passK m.doors O out m.doors.length
def nearK (m : Mz) (O : Nat) : Nat → Nat
  | 0 => 1
  | j + 1 => passN m O (nearK m O j)
def nearN (m : Mz) (O : Nat) : Nat := nearK m O 4096
theorem nearD_sub (ds : List D3) (O out k : Nat) : SubN out (nearD ds O out k) := by
  intro i hi
  unfold nearD
  split
  · rw [setN_bit, setN_bit, hi]; rfl
  · exact hi
theorem passK_sub (ds : List D3) (O out : Nat) : ∀ k, SubN out (passK ds O out k)
  | 0 => fun i hi => hi
  | k + 1 => fun i hi => nearD_sub ds O _ k i (passK_sub ds O out k i hi)
theorem passK_sub2 (ds : List D3) (O out k : Nat) : ∀ j, SubN (passK ds O out k) (passK ds O out (k + j))
  | 0 => fun i hi => hi
  | j + 1 => fun i hi => nearD_sub ds O _ (k + j) i (passK_sub2 ds O out k j i hi)
theorem sub_le {a b : Nat} (h : SubN a b) : a ≤ b := by
  have e : a ||| b = b := by
    apply Nat.eq_of_testBit_eq
    intro i
    rw [Nat.testBit_or]
    cases ha : a.testBit i
    · simp
    · rw [h i ha]; simp
  have h2 : a ≤ a ||| b := Nat.left_le_or
  omega
theorem nearD_in {m : Mz} (ok : MzOk m) (O : Nat) {out k : Nat} (h : InM m out) (hk : k < m.doors.length) : InM m (nearD m.doors O out k) := by
  obtain ⟨a, b, c, hg⟩ : ∃ a b c, m.doors[k]! = (a, b, c) := ⟨_, _, _, rfl⟩
  have f := door_facts ok hk hg
  intro i hi
  unfold nearD at hi
  rw [hg] at hi
  dsimp only at hi
  split at hi
  · rw [setN_bit, setN_bit, Bool.or_eq_true, Bool.or_eq_true] at hi
    rcases hi with (hi | hi) | hi
    · exact h i hi
    · have : a.toNat = i := by simpa using hi
      omega
    · have : b.toNat = i := by simpa using hi
      omega
  · exact h i hi
theorem passK_in {m : Mz} (ok : MzOk m) (O : Nat) {out : Nat} (h : InM m out) : ∀ k, k ≤ m.doors.length → InM m (passK m.doors O out k)
  | 0, _ => h
  | k + 1, hk => nearD_in ok O (passK_in ok O h k (by omega)) (by omega)
theorem one_in {m : Mz} (ok : MzOk m) : InM m 1 := by
  intro i hi
  have : i < 1 := bit_lt (n := 1) (by decide) hi
  have := ok.s1; omega
theorem nearK_in {m : Mz} (ok : MzOk m) (O : Nat) : ∀ j, InM m (nearK m O j)
  | 0 => one_in ok
  | j + 1 => passK_in ok O (nearK_in ok O j) _ (Nat.le_refl _)
theorem nearK_end {m : Mz} {O j : Nat} (h : passN m O (nearK m O j) = nearK m O j) : ∀ i, nearK m O (j + i) = nearK m O j
  | 0 => rfl
  | i + 1 => by
    show passN m O (nearK m O (j + i)) = _
    rw [nearK_end h i, h]
theorem nearN_eq {m : Mz} {O j : Nat} (hj : j ≤ 4096) (h : passN m O (nearK m O j) = nearK m O j) : nearN m O = nearK m O j := by
  unfold nearN
  rw [show 4096 = j + (4096 - j) from by omega, nearK_end h]
theorem passN_grows {m : Mz} {O out : Nat} (h : passN m O out ≠ out) : out < passN m O out := by
  have := sub_le (passK_sub m.doors O out m.doors.length)
  unfold passN at *
  omega
theorem nearN_fix {m : Mz} (ok : MzOk m) (O : Nat) : passN m O (nearN m O) = nearN m O := by
  obtain ⟨k, hk, h⟩ := grow_fix (fun k => nearK m O k) (fun k => passN m O (nearK m O k) = nearK m O k) (fun k => by
    by_cases h : passN m O (nearK m O k) = nearK m O k
    · exact .inl h
    · exact .inr (passN_grows h)) (fun k => (nearK_in ok O k).lt ok)
  rw [nearN_eq (by omega) h]; exact h
theorem nearN_in {m : Mz} (ok : MzOk m) (O : Nat) : InM m (nearN m O) := nearK_in ok O _
/-- What is near is closed. -/
theorem pass_fix {ds : List D3} {O out n : Nat} (h : passK ds O out n = out) : ∀ k, k < n → openK ds O k = true → (out.testBit ds[k]!.1.toNat = out.testBit ds[k]!.2.1.toNat) := by
  have hall : ∀ k, k ≤ n → passK ds O out k = out := by
    intro k hk
    have h1 := passK_sub ds O out k
    have h2 := passK_sub2 ds O out k (n - k)
    rw [show k + (n - k) = n from by omega, h] at h2
    exact SubN.antisymm h2 h1
  intro k hk ho
  have h1 := hall (k + 1) (by omega)
  have h2 : passK ds O out (k + 1) = nearD ds O out k := by
    show nearD ds O (passK ds O out k) k = _
    rw [hall k (by omega)]
  rw [h1] at h2
  cases hx : (out.testBit ds[k]!.1.toNat != out.testBit ds[k]!.2.1.toNat)
  · simpa using hx
  · exfalso
    unfold nearD at h2
    rw [ho, hx] at h2
    simp only [Bool.and_self, if_true] at h2
    have ha := congrArg (fun z => Nat.testBit z ds[k]!.1.toNat) h2
    have hb := congrArg (fun z => Nat.testBit z ds[k]!.2.1.toNat) h2
    simp only [setN_bit, decide_true, Bool.or_true, Bool.true_or] at ha hb
    rw [ha, hb] at hx
    simp at hx
theorem nearK_sub {m : Mz} {O C : Nat} (h0 : C.testBit 0 = true) (hc : ∀ k, k < m.doors.length → openK m.doors O k = true → C.testBit m.doors[k]!.1.toNat = C.testBit m.doors[k]!.2.1.toNat) : ∀ j, SubN (nearK m O j) C
  | 0 => by
    intro i hi
    have hi : Nat.testBit 1 i = true := hi
    have : i < 1 := bit_lt (n := 1) (by decide) hi
    obtain rfl : i = 0 := by omega
    exact h0
  | j + 1 => by
    have ih := nearK_sub h0 hc j
    have : ∀ k, k ≤ m.doors.length → SubN (passK m.doors O (nearK m O j) k) C := by
      intro k
      induction k with
      | zero => intro _; exact ih
      | succ k ihk =>
        intro hk i hi
        have ihk := ihk (by omega)
        have hi : (nearD m.doors O (passK m.doors O (nearK m O j) k) k).testBit i = true := hi
        unfold nearD at hi
        split at hi
        · rename_i hcond
          rw [Bool.and_eq_true] at hcond
          have heq := hc k (by omega) hcond.1
          have hne : (passK m.doors O (nearK m O j) k).testBit m.doors[k]!.1.toNat ≠ (passK m.doors O (nearK m O j) k).testBit m.doors[k]!.2.1.toNat := by simpa using hcond.2
          have hboth : C.testBit m.doors[k]!.1.toNat = true ∧ C.testBit m.doors[k]!.2.1.toNat = true := by
            cases ha : (passK m.doors O (nearK m O j) k).testBit m.doors[k]!.1.toNat
            · cases hb : (passK m.doors O (nearK m O j) k).testBit m.doors[k]!.2.1.toNat
              · rw [ha, hb] at hne; exact absurd rfl hne
              · have := ihk _ hb; rw [heq]; exact ⟨this, this⟩
            · have := ihk _ ha; exact ⟨this, by rw [← heq]; exact this⟩
          rw [setN_bit, setN_bit, Bool.or_eq_true, Bool.or_eq_true] at hi
          rcases hi with (hi | hi) | hi
          · exact ihk i hi
          · have : m.doors[k]!.1.toNat = i := by simpa using hi
            rw [← this]; exact hboth.1
          · have : m.doors[k]!.2.1.toNat = i := by simpa using hi
            rw [← this]; exact hboth.2
        · exact ihk i hi
    exact this _ (Nat.le_refl _)
theorem nearK_zero {m : Mz} (O : Nat) : ∀ j, (nearK m O j).testBit 0 = true
  | 0 => by show Nat.testBit 1 0 = true; decide
  | j + 1 => passK_sub m.doors O (nearK m O j) m.doors.length 0 (nearK_zero O j)
theorem near_mono {m : Mz} (ok : MzOk m) {O O' : Nat} (h : SubN O O') : SubN (nearN m O) (nearN m O') := by
  have hf := pass_fix (nearN_fix ok O')
  refine nearK_sub (nearK_zero O' _) (fun k hk ho => hf k hk ?_) _
  unfold openK at *
  rw [Bool.or_eq_true] at *
  rcases ho with ho | ho
  · exact .inl ho
  · exact .inr (h k ho)
/-! What is left -/
def cntK (m : Mz) (N c : Nat) : Nat := (mem N).countP fun x => (m.keys[x.toNat]!.toNat).testBit c
def cntD (m : Mz) (L : List Int) (c : Nat) : Nat := L.countP fun k => (m.doors[k.toNat]!.2.2.toNat).testBit c
def leftC (m : Mz) (N : Nat) (L : List Int) (c : Nat) : Int := (cntK m N c : Int) - (cntD m L c : Int)
def leftL (m : Mz) (N : Nat) (L : List Int) : List Int := (List.range 6).map fun c => leftC m N L c
theorem leftL_at (m : Mz) (N : Nat) (L : List Int) (c : Nat) (hc : c < 6) : (leftL m N L)[c]! = leftC m N L c := by
  rw [getElem!_pos _ _ (by simp [leftL]; omega)]; simp [leftL]
@[simp] theorem leftL_len (m : Mz) (N : Nat) (L : List Int) : (leftL m N L).length = 6 := by simp [leftL]
theorem cntK_mono {m : Mz} {N N' : Nat} (h : SubN N N') (c : Nat) : cntK m N c ≤ cntK m N' c := by
  unfold cntK mem memN
  rw [List.countP_map, List.countP_map, List.countP_filter, List.countP_filter]
  refine List.countP_mono_left fun i hi hp => ?_
  simp only [Bool.and_eq_true] at hp ⊢
  exact ⟨hp.1, h i hp.2⟩
/-- Can the lock k be opened? -/
def canK (m : Mz) (O : Nat) (L : List Int) (k : Nat) : Bool :=
  !O.testBit k && ((nearN m O).testBit m.doors[k]!.1.toNat || (nearN m O).testBit m.doors[k]!.2.1.toNat) && (List.range 6).all fun c => !(m.doors[k]!.2.2.toNat.testBit c) || decide (1 ≤ leftC m (nearN m O) L c)
def nextK (m : Mz) (O : Nat) (L : List Int) (n : Nat) : List Int := ((List.range n).filter fun k => isLock m.doors k && canK m O L k).map fun (k : Nat) => (k : Int)
def nextL (m : Mz) (O : Nat) (L : List Int) : List Int := nextK m O L m.doors.length
/-! Openings -/
def opK (m : Mz) (L : List Int) : Nat → Option Nat
  | 0 => some 0
  | i + 1 => match opK m L i with | none => none | some O => if hasI (nextL m O (L.take i)) L[i]! then some (setN O L[i]!) else none
structure OpOk (m : Mz) (O : Nat) (L : List Int) : Prop where
  nd : L.Nodup
  mem : ∀ y, y ∈ L ↔ y ∈ mem O
  lt : ∀ i, O.testBit i = true → i < m.doors.length
  left : ∀ c, c < 6 → 0 ≤ leftC m (nearN m O) L c
theorem in_nextK {m : Mz} {O : Nat} {L : List Int} {n : Nat} {y : Int} : y ∈ nextK m O L n ↔ ∃ k : Nat, k < n ∧ isLock m.doors k = true ∧ canK m O L k = true ∧ y = k := by
  unfold nextK
  simp only [List.mem_map, List.mem_filter, List.mem_range, Bool.and_eq_true]
  constructor
  · rintro ⟨k, ⟨h1, h2, h3⟩, rfl⟩; exact ⟨k, h1, h2, h3, rfl⟩
  · rintro ⟨k, h1, h2, h3, rfl⟩; exact ⟨k, ⟨h1, h2, h3⟩, rfl⟩
theorem op_step {m : Mz} (ok : MzOk m) {O : Nat} {L : List Int} (h : OpOk m O L) {y : Int} (hy : y ∈ nextL m O L) : OpOk m (setN O y) (L ++ [y]) := by
  obtain ⟨k, hk, hl, hc, rfl⟩ := in_nextK.1 hy
  unfold canK at hc
  simp only [Bool.and_eq_true, Bool.not_eq_true', List.all_eq_true, List.mem_range] at hc
  obtain ⟨⟨h1, h2⟩, h3⟩ := hc
  have hnd := ok.nd
  have hbit : ∀ i, (setN O (k : Int)).testBit i = (O.testBit i || decide (k = i)) := fun i => by rw [setN_bit]; simp
  have hsub : SubN O (setN O (k : Int)) := fun i hi => by rw [hbit, hi]; rfl
  refine ⟨?_, fun z => ?_, fun i hi => ?_, fun c hc => ?_⟩
  · rw [List.nodup_append]
    refine ⟨h.nd, by simp, fun a ha b hb => ?_⟩
    have hb : b = (k : Int) := by simpa using hb
    rintro rfl
    obtain ⟨i, _, hi, he⟩ := (in_mem O _).1 ((h.mem a).1 ha)
    have : i = k := by omega
    rw [this, h1] at hi; cases hi
  · rw [List.mem_append, h.mem z, in_mem, in_mem]
    constructor
    · rintro (⟨i, hi, hb, rfl⟩ | hz)
      · exact ⟨i, hi, hsub i hb, rfl⟩
      · have hz : z = (k : Int) := by simpa using hz
        exact ⟨k, by omega, by rw [hbit]; simp, hz⟩
    · rintro ⟨i, hi, hb, rfl⟩
      rw [hbit, Bool.or_eq_true] at hb
      rcases hb with hb | hb
      · exact .inl ⟨i, hi, hb, rfl⟩
      · right; have : k = i := by simpa using hb
        simp [this]
  · rw [hbit, Bool.or_eq_true] at hi
    rcases hi with hi | hi
    · exact h.lt i hi
    · have : k = i := by simpa using hi
      omega
  · have hm := cntK_mono (m := m) (near_mono ok hsub) c
    have h0 := h.left c hc
    have h3 := h3 c hc
    have hd : cntD m (L ++ [(k : Int)]) c = cntD m L c + if (m.doors[k]!.2.2.toNat).testBit c then 1 else 0 := by
      unfold cntD
      rw [List.countP_append, List.countP_singleton]
      simp
    unfold leftC at *
    rw [hd]
    split
    · rename_i hb
      rw [hb] at h3
      have : 1 ≤ (cntK m (nearN m O) c : Int) - (cntD m L c : Int) := by simpa using h3
      omega
    · omega
theorem op_none {m : Mz} (ok : MzOk m) : OpOk m 0 [] :=
  ⟨by simp, fun y => by rw [show mem 0 = [] from by decide], fun i hi => by simp at hi, fun c _ => by unfold leftC cntD; simp⟩
theorem opK_ok {m : Mz} (ok : MzOk m) {L : List Int} : ∀ i O, i ≤ L.length → opK m L i = some O → OpOk m O (L.take i)
  | 0, O, _, h => by
    simp only [opK, Option.some.injEq] at h
    subst h
    exact op_none ok
  | i + 1, O, hi, h => by
    unfold opK at h
    split at h
    · cases h
    · rename_i O' h'
      have ih := opK_ok ok i O' (by omega) h'
      split at h
      · rename_i hh
        simp only [Option.some.injEq] at h
        rw [hasI_iff] at hh
        rw [← h, take_snoc (by omega)]
        exact op_step ok ih hh
      · cases h
theorem opK_none {m : Mz} {L : List Int} {k : Nat} (h : opK m L k = none) : ∀ j, opK m L (k + j) = none
  | 0 => h
  | j + 1 => by show opK m L ((k + j) + 1) = none; unfold opK; rw [opK_none h j]
/-- The order of a list of locks is of no matter. -/
theorem cntD_perm {m : Mz} {O : Nat} {L : List Int} (h : OpOk m O L) (c : Nat) : cntD m (mem O) c = cntD m L c := by
  unfold cntD
  refine List.Perm.countP_eq _ ?_
  refine (List.perm_ext_iff_of_nodup ?_ h.nd).2 fun y => (h.mem y).symm
  exact (Go.KD.mem_sorted O).imp fun h => by omega
theorem leftC_perm {m : Mz} {O : Nat} {L : List Int} (h : OpOk m O L) (N c : Nat) : leftC m N (mem O) c = leftC m N L c := by unfold leftC; rw [cntD_perm h]
theorem leftL_perm {m : Mz} {O : Nat} {L : List Int} (h : OpOk m O L) (N : Nat) : leftL m N (mem O) = leftL m N L := by
  unfold leftL
  exact List.map_congr_left fun c _ => leftC_perm h N c
end Go.KD

namespace Go.Proofs.Ytcjcgcgcloanpaa
open Go.RowKit Go.KD
attribute [local go_sem] later_cell later_frozen
set_option maxHeartbeats 8000000 in
theorem l1PutB_c (b0 off0 cap : Nat) (l : List Int) (x : Int) (w : World) (hA : IC w (some ⟨b0, off0, none⟩) l) (hl : l.length ≤ 1000) (hcap : l.length ≤ cap) (hc63 : cap ≤ maxLen) :
    Calls Try.prog 149 #[.slice (some ⟨b0, off0, none⟩) l.length cap, .int .i64 x] w fun e w' => ∃ b' off' c', e = .returned (.slice (some ⟨b', off', none⟩) (putL l x).length c') ∧ IC w' (some ⟨b', off', none⟩) (putL l x) ∧ (putL l x).length ≤ c' ∧ c' ≤ maxLen ∧ Below w.heap.size w w' ∧ (b' = b0 ∨ w.heap.size ≤ b') := by
  obtain ⟨i0, ji, jz0, jz1, jz2⟩ := info_parts infoI
  have hc2 : cap ≤ 9223372036854775807 := by unfold maxLen at hc63; omega
  go_enter Try.func149, Try.ntmps149
  go_wp2
  go_loop [5] (fun c => ∃ k : Nat, k ≤ l.length ∧ c = .int .i64 k ∧ Hid (∀ j, j < k → l[j]! < x)) (fun c => l.length - (intOf c).toNat)
  case atStart => exact ⟨0, Nat.zero_le _, rfl, fun j hj => absurd hj (Nat.not_lt_zero j)⟩
  case round =>
    obtain ⟨k, hk, rfl, HJ⟩ := hrel
    by_cases hlt : k < l.length
    · have hkn : (k : Int) < (l.length : Int) := by omega
      obtain ⟨b, off, y, hbo, HY, hbs, e0⟩ := hA.at k hlt
      cases hbo
      cases p1 : decide (y < x)
      · have HL : Hid (¬ l[k]! < x) := by show ¬ _; rw [HY.out]; simpa using p1
        cases p2 : (y == x)
        · have HE : Hid (putL l x = l.take k ++ x :: l.drop k) := by
            show _ = _
            rw [putL_eq l x k hk HJ.out (fun _ => HL.out), if_neg]
            rintro ⟨-, h⟩
            rw [HY.out] at h; simp [h] at p2
          have hkc : (k : Int) ≤ (cap : Int) := by omega
          have hkl : (k : Int) ≤ (l.length : Int) := by omega
          have hlc : (l.length : Int) ≤ (cap : Int) := by omega
          have hk0 : (0 : Int) ≤ (k : Int) := by omega
          have hck : ¬ (cap = k) := by omega
          go_wp2
          go_region_law (first
            | (refine step_append_below _ w w.heap.size (by (repeat (first | exact Below.refl _ _ | apply Below.drew | apply below_drewN | (refine Below.setCell ?_ (by first | omega | (simp; done) | (simp; omega) | (dsimp only; omega)) _) | (refine Below.alloc ?_ (by first | omega | (simp; done) | (simp; omega) | (dsimp only; omega)) _)))) (by rfl) _ _ 25 (by rfl) 3 i0 (.int .i64 0) 1 8 Try.underlying25 ji jz0 jz1 jz2 rfl (by decide) (.slice (some ⟨_, 0, none⟩) 0 0) 0 [] (by rfl) (own_empty (by first | exact heap1 w _ | exact heap2 w _ _ | exact heap3 w _ _) (by simp)) ⟨b0, off0, none⟩ k _ (ints (l.take k)) (by rfl) (by simp [length_ints]; omega) (news_take (hA.later (by (repeat (first | exact Below.refl _ _ | apply Below.drew | apply below_drewN | (refine Below.setCell ?_ (by first | omega | (simp; done) | (simp; omega) | (dsimp only; omega)) _) | (refine Below.alloc ?_ (by first | omega | (simp; done) | (simp; omega) | (dsimp only; omega)) _))))) k) ints_one (by unfold maxLen; omega) (by omega) (by simp; try omega) ?_; intro v1 w1 ho1 hg1 hb1)
            | (refine step_append_below _ w w.heap.size (hb1.alloc hb1.size _) (by rfl) _ _ 25 (by rfl) 3 i0 (.int .i64 0) 1 8 Try.underlying25 ji jz0 jz1 jz2 rfl (by decide) _ _ _ (by rfl) (ho1.alloc _) ⟨_, 0, none⟩ 1 1 (ints [x]) (by rfl) (by rfl) (cell_one_new _ _ _) ints_one (by unfold maxLen; omega) (by omega) (by have := hb1.size; simp; omega) ?_; intro v2 w2 ho2 hg2 hb2)
            | (refine step_append_below _ w w.heap.size hb1 (by rfl) _ _ 25 (by rfl) 3 i0 (.int .i64 0) 1 8 Try.underlying25 ji jz0 jz1 jz2 rfl (by decide) _ _ _ (by rfl) ho1 ⟨_, 0, none⟩ 1 1 (ints [x]) (by rfl) (by rfl) (by intro j u hu; rcases j with _ | j; (rw [add_at rfl, hg1.cell_far ⟨_, _, none⟩ (by simp; try omega) (by simp [Value.ownBlock]; try omega)]; simp [ints] at hu; subst hu; simp [go_sem]); (simp [ints] at hu)) ints_one (by unfold maxLen; omega) (by omega) hb1.size ?_; intro v2 w2 ho2 hg2 hb2)
            | (refine step_append_below _ w w.heap.size hb2 (by rfl) _ _ 25 (by rfl) 3 i0 (.int .i64 0) 1 8 Try.underlying25 ji jz0 jz1 jz2 rfl (by decide) _ _ _ (by rfl) ho2 ⟨b0, off0 + k, none⟩ (l.length - k) _ (ints (l.drop k)) (by rfl) (by simp [length_ints]) (news_drop (hA.later hb2) k) ints_one (by unfold maxLen; omega) (by omega) hb2.size ?_; intro v3 w3 ho3 hg3 hb3))
          all_goals
            obtain ⟨g3, c3, rfl, hi3, hr3, hm3, hlo3⟩ := put_end hk ho3
            have HI := Lib.hid hi3; clear hi3
            clear ho3 ho2 ho1 hg1 hg2 hg3
            go_wp2
            go_ret
            exact ⟨g3, 0, c3, by rw [HE.out]; rfl, by rw [HE.out]; exact HI.out, by rw [HE.out]; exact hr3, hm3, hb3, .inr hlo3⟩
        · have HE : Hid (putL l x = l) := by
            show _ = _
            rw [putL_eq l x k hk HJ.out (fun _ => HL.out), if_pos]
            exact ⟨hlt, by rw [HY.out]; simpa using p2⟩
          go_wp2
          go_ret
          exact ⟨b0, off0, cap, by rw [HE.out]; rfl, by rw [HE.out]; exact hA, by rw [HE.out]; exact hcap, hc63, Below.refl _ _, .inl rfl⟩
      · have HJ' : Hid (∀ j, j < k + 1 → l[j]! < x) := by
          intro j hj
          rcases Nat.lt_or_ge j k with h | h
          · exact HJ.out j h
          · obtain rfl : j = k := by omega
            rw [HY.out]; simpa using p1
        go_wp2
        go_round
        case rel => exact ⟨k + 1, by omega, by go_num, HJ'⟩
        case measure => simp [intOf]; omega
    · have hge : decide ((k : Int) < (l.length : Int)) = false := by simp; omega
      have HE : Hid (putL l x = l.take k ++ x :: l.drop k) := by
        show _ = _
        rw [putL_eq l x k hk HJ.out (fun h => absurd h hlt), if_neg (fun h => hlt h.1)]
      by_cases hck : cap = k
      · have hkc : (k : Int) ≤ (cap : Int) := by omega
        have hkl : (k : Int) ≤ (l.length : Int) := by omega
        have hlc : (l.length : Int) ≤ (cap : Int) := by omega
        have hk0 : (0 : Int) ≤ (k : Int) := by omega
        go_wp2
        go_region_law (first
          | (refine step_append_below _ w w.heap.size (by (repeat (first | exact Below.refl _ _ | apply Below.drew | apply below_drewN | (refine Below.setCell ?_ (by first | omega | (simp; done) | (simp; omega) | (dsimp only; omega)) _) | (refine Below.alloc ?_ (by first | omega | (simp; done) | (simp; omega) | (dsimp only; omega)) _)))) (by rfl) _ _ 25 (by rfl) 3 i0 (.int .i64 0) 1 8 Try.underlying25 ji jz0 jz1 jz2 rfl (by decide) (.slice (some ⟨_, 0, none⟩) 0 0) 0 [] (by rfl) (own_empty (by first | exact heap1 w _ | exact heap2 w _ _ | exact heap3 w _ _) (by simp)) ⟨b0, off0, none⟩ k _ (ints (l.take k)) (by rfl) (by simp [length_ints]; omega) (news_take (hA.later (by (repeat (first | exact Below.refl _ _ | apply Below.drew | apply below_drewN | (refine Below.setCell ?_ (by first | omega | (simp; done) | (simp; omega) | (dsimp only; omega)) _) | (refine Below.alloc ?_ (by first | omega | (simp; done) | (simp; omega) | (dsimp only; omega)) _))))) k) ints_one (by unfold maxLen; omega) (by omega) (by simp; try omega) ?_; intro v1 w1 ho1 hg1 hb1)
          | (refine step_append_below _ w w.heap.size (hb1.alloc hb1.size _) (by rfl) _ _ 25 (by rfl) 3 i0 (.int .i64 0) 1 8 Try.underlying25 ji jz0 jz1 jz2 rfl (by decide) _ _ _ (by rfl) (ho1.alloc _) ⟨_, 0, none⟩ 1 1 (ints [x]) (by rfl) (by rfl) (cell_one_new _ _ _) ints_one (by unfold maxLen; omega) (by omega) (by have := hb1.size; simp; omega) ?_; intro v2 w2 ho2 hg2 hb2)
          | (refine step_append_below _ w w.heap.size hb1 (by rfl) _ _ 25 (by rfl) 3 i0 (.int .i64 0) 1 8 Try.underlying25 ji jz0 jz1 jz2 rfl (by decide) _ _ _ (by rfl) ho1 ⟨_, 0, none⟩ 1 1 (ints [x]) (by rfl) (by rfl) (by intro j u hu; rcases j with _ | j; (rw [add_at rfl, hg1.cell_far ⟨_, _, none⟩ (by simp; try omega) (by simp [Value.ownBlock]; try omega)]; simp [ints] at hu; subst hu; simp [go_sem]); (simp [ints] at hu)) ints_one (by unfold maxLen; omega) (by omega) hb1.size ?_; intro v2 w2 ho2 hg2 hb2)
          | (refine step_append_below _ w w.heap.size hb2 (by rfl) _ _ 25 (by rfl) 3 i0 (.int .i64 0) 1 8 Try.underlying25 ji jz0 jz1 jz2 rfl (by decide) _ _ _ (by rfl) ho2 ⟨b0, off0, none⟩ (l.length - k) _ (ints (l.drop k)) (by rfl) (by simp [length_ints]) (by rw [List.drop_of_length_le (by omega)]; intro j u hu; simp [ints] at hu) ints_one (by unfold maxLen; omega) (by omega) hb2.size ?_; intro v3 w3 ho3 hg3 hb3))
        all_goals
          obtain ⟨g3, c3, rfl, hi3, hr3, hm3, hlo3⟩ := put_end hk ho3
          have HI := Lib.hid hi3; clear hi3
          clear ho3 ho2 ho1 hg1 hg2 hg3
          go_wp2
          go_ret
          exact ⟨g3, 0, c3, by rw [HE.out]; rfl, by rw [HE.out]; exact HI.out, by rw [HE.out]; exact hr3, hm3, hb3, .inr hlo3⟩
      · have hkc : (k : Int) ≤ (cap : Int) := by omega
        have hkl : (k : Int) ≤ (l.length : Int) := by omega
        have hlc : (l.length : Int) ≤ (cap : Int) := by omega
        have hk0 : (0 : Int) ≤ (k : Int) := by omega
        go_wp2
        go_region_law (first
          | (refine step_append_below _ w w.heap.size (by (repeat (first | exact Below.refl _ _ | apply Below.drew | apply below_drewN | (refine Below.setCell ?_ (by first | omega | (simp; done) | (simp; omega) | (dsimp only; omega)) _) | (refine Below.alloc ?_ (by first | omega | (simp; done) | (simp; omega) | (dsimp only; omega)) _)))) (by rfl) _ _ 25 (by rfl) 3 i0 (.int .i64 0) 1 8 Try.underlying25 ji jz0 jz1 jz2 rfl (by decide) (.slice (some ⟨_, 0, none⟩) 0 0) 0 [] (by rfl) (own_empty (by first | exact heap1 w _ | exact heap2 w _ _ | exact heap3 w _ _) (by simp)) ⟨b0, off0, none⟩ k _ (ints (l.take k)) (by rfl) (by simp [length_ints]; omega) (news_take (hA.later (by (repeat (first | exact Below.refl _ _ | apply Below.drew | apply below_drewN | (refine Below.setCell ?_ (by first | omega | (simp; done) | (simp; omega) | (dsimp only; omega)) _) | (refine Below.alloc ?_ (by first | omega | (simp; done) | (simp; omega) | (dsimp only; omega)) _))))) k) ints_one (by unfold maxLen; omega) (by omega) (by simp; try omega) ?_; intro v1 w1 ho1 hg1 hb1)
          | (refine step_append_below _ w w.heap.size (hb1.alloc hb1.size _) (by rfl) _ _ 25 (by rfl) 3 i0 (.int .i64 0) 1 8 Try.underlying25 ji jz0 jz1 jz2 rfl (by decide) _ _ _ (by rfl) (ho1.alloc _) ⟨_, 0, none⟩ 1 1 (ints [x]) (by rfl) (by rfl) (cell_one_new _ _ _) ints_one (by unfold maxLen; omega) (by omega) (by have := hb1.size; simp; omega) ?_; intro v2 w2 ho2 hg2 hb2)
          | (refine step_append_below _ w w.heap.size hb1 (by rfl) _ _ 25 (by rfl) 3 i0 (.int .i64 0) 1 8 Try.underlying25 ji jz0 jz1 jz2 rfl (by decide) _ _ _ (by rfl) ho1 ⟨_, 0, none⟩ 1 1 (ints [x]) (by rfl) (by rfl) (by intro j u hu; rcases j with _ | j; (rw [add_at rfl, hg1.cell_far ⟨_, _, none⟩ (by simp; try omega) (by simp [Value.ownBlock]; try omega)]; simp [ints] at hu; subst hu; simp [go_sem]); (simp [ints] at hu)) ints_one (by unfold maxLen; omega) (by omega) hb1.size ?_; intro v2 w2 ho2 hg2 hb2)
          | (refine step_append_below _ w w.heap.size hb2 (by rfl) _ _ 25 (by rfl) 3 i0 (.int .i64 0) 1 8 Try.underlying25 ji jz0 jz1 jz2 rfl (by decide) _ _ _ (by rfl) ho2 ⟨b0, off0 + k, none⟩ (l.length - k) _ (ints (l.drop k)) (by rfl) (by simp [length_ints]) (news_drop (hA.later hb2) k) ints_one (by unfold maxLen; omega) (by omega) hb2.size ?_; intro v3 w3 ho3 hg3 hb3))
        all_goals
          obtain ⟨g3, c3, rfl, hi3, hr3, hm3, hlo3⟩ := put_end hk ho3
          have HI := Lib.hid hi3; clear hi3
          clear ho3 ho2 ho1 hg1 hg2 hg3
          go_wp2
          go_ret
          exact ⟨g3, 0, c3, by rw [HE.out]; rfl, by rw [HE.out]; exact HI.out, by rw [HE.out]; exact hr3, hm3, hb3, .inr hlo3⟩
theorem l1Put_c (b0 off0 cap : Nat) (l : List Int) (x : Int) (w : World) (hA : IC w (some ⟨b0, off0, none⟩) l) (hl : l.length ≤ 1000) (hcap : l.length ≤ cap) (hc63 : cap ≤ maxLen) :
    Calls Try.prog 149 #[.slice (some ⟨b0, off0, none⟩) l.length cap, .int .i64 x] w fun e w' => ∃ b' off' c', e = .returned (.slice (some ⟨b', off', none⟩) (putL l x).length c') ∧ IC w' (some ⟨b', off', none⟩) (putL l x) ∧ (putL l x).length ≤ c' ∧ c' ≤ maxLen ∧ Below w.heap.size w w' :=
  (l1PutB_c b0 off0 cap l x w hA hl hcap hc63).mono fun _ _ ⟨b', off', c', h1, h2, h3, h4, h5, _⟩ => ⟨b', off', c', h1, h2, h3, h4, h5⟩
end Go.Proofs.Ytcjcgcgcloanpaa
