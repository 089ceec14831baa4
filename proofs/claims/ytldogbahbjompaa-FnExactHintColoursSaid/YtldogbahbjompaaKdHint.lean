/- impl.hint, impl.HintAt, impl.HintColours. -/
import Derived.Test.YtldogbahbjompaaKdWay
set_option linter.unusedVariables false
set_option linter.unusedSimpArgs false
namespace Go.KD
open Go.RowKit
noncomputable def hintB (m : Mz) (W : List Int) : Bool := mazeB m && tkAll m W && decide (0 ≤ dM m (endW m W))
def HiPost (m : Mz) (W : List Int) (w : World) (e : Ending) (w' : World) : Prop :=
  Below w.heap.size w w' ∧ ((∃ n : Nat, mazeB m = true ∧ tkAll m W = true ∧ dM m (endW m W) = (n : Int) ∧ ∃ a c, e = .returned (.tuple #[.slice a n c, .int .i64 (keysL m W : Nat), .bool true]) ∧ IC w' a (wayL (nxM m) (dM m) (endW m W) n)) ∨ (hintB m W = false ∧ ∃ a c, e = .returned (.tuple #[.slice a 0 c, .int .i64 0, .bool false])))
end Go.KD
namespace Go.Proofs.Ytldogbahbjompaa
open Go.RowKit Go.KD
attribute [local go_sem] later_cell later_frozen
set_option maxRecDepth 100000 in
set_option maxHeartbeats 8000000 in
theorem hint_c (v : Value) (m : Mz) (a : Option Addr) (cap : Nat) (W : List Int) (w : World) (hm : MzAt w v m) (hA : IC w a W) (hl : W.length ≤ 1048576) :
    Calls Try.prog 45 #[v, .slice a W.length cap] w (HiPost m W w) := by
  have hM := hm
  obtain ⟨⟨ad, cd, ak, ck, rfl, hd, hk'⟩, nd, nk⟩ := hM
  have HM := Lib.hid hm
  have HA := Lib.hid hA
  cases b1 : mazeB m
  · have HD : Hid (hintB m W = false) := by show _ = _; unfold hintB; rw [b1]; rfl
    have HB1' := Lib.hid b1
    clear hm hA b1
    go_enter Try.func45, Try.ntmps45
    go_wp2_with (go_at_call 93; refine (takenOn_no _ m _ _ _ _ (HM.out.later (by (repeat (first | exact Below.refl _ _ | apply Below.drew | apply below_drewN | (refine Below.setCell ?_ (by first | omega | (simp; done) | (simp; omega) | (dsimp only; omega)) _) | (refine Below.alloc ?_ (by first | omega | (simp; done) | (simp; omega) | (dsimp only; omega)) _))))) HB1'.out).mono ?_; rintro e w1 ⟨rfl, hb1⟩; have HB1 : Hid (Below w.heap.size w w1) := below_then (by (repeat (first | exact Below.refl _ _ | apply Below.drew | apply below_drewN | (refine Below.setCell ?_ (by first | omega | (simp; done) | (simp; omega) | (dsimp only; omega)) _) | (refine Below.alloc ?_ (by first | omega | (simp; done) | (simp; omega) | (dsimp only; omega)) _)))) hb1)
    go_ret3
    exact ⟨HB1.out, .inr ⟨HD.out, _, _, rfl⟩⟩
  have OK := Lib.hid (mazeB_true.1 b1)
  have HT1 := Lib.hid b1
  have HZG := Lib.hid zeroGridR
  clear hm hA b1
  go_enter Try.func45, Try.ntmps45
  go_wp2_with fail
  refine (takenOn_yes _ m _ _ W _ (HM.out.later (by (repeat (first | exact Below.refl _ _ | apply Below.drew | apply below_drewN | (refine Below.setCell ?_ (by first | omega | (simp; done) | (simp; omega) | (dsimp only; omega)) _) | (refine Below.alloc ?_ (by first | omega | (simp; done) | (simp; omega) | (dsimp only; omega)) _))))) HT1.out (HA.out.later (by (repeat (first | exact Below.refl _ _ | apply Below.drew | apply below_drewN | (refine Below.setCell ?_ (by first | omega | (simp; done) | (simp; omega) | (dsimp only; omega)) _) | (refine Below.alloc ?_ (by first | omega | (simp; done) | (simp; omega) | (dsimp only; omega)) _))))) hl).mono ?_
  rintro e w1 ⟨hb1, hp⟩
  have HB1 : Hid (Below w.heap.size w w1) := below_then (by (repeat (first | exact Below.refl _ _ | apply Below.drew | apply below_drewN | (refine Below.setCell ?_ (by first | omega | (simp; done) | (simp; omega) | (dsimp only; omega)) _) | (refine Below.alloc ?_ (by first | omega | (simp; done) | (simp; omega) | (dsimp only; omega)) _)))) hb1
  have HX1 : Hid (Below (w.heap.size + 1) (w.alloc (.cells #[.int .i64 m.size, .slice ad m.doors.length cd, .slice ak m.keys.length ck] 29)) w1) := hb1.mono (by simp)
  obtain ⟨q0, q1, q2, z1⟩ := box3 hb1 (by simp)
  clear hb1
  rcases hp with ⟨ht, a2, c2, rfl, hi⟩ | ⟨ht, a2, c2, rfl⟩
  case inr =>
    have HD : Hid (hintB m W = false) := by show _ = _; unfold hintB; rw [ht, Bool.and_false]; rfl
    clear ht
    go_wp2_with fail
    go_ret3
    exact ⟨HB1.out, .inr ⟨HD.out, _, _, rfl⟩⟩
  have HT := Lib.hid ht
  have HI := Lib.hid hi
  have hlen := (tkAll_at ht).1
  obtain ⟨x, s, hx, hs, hxm, hx12, hs64, hend, -⟩ := endW_ok OK.out ht
  have HEND := Lib.hid hend
  have HS := Lib.hid hs
  clear ht hi
  obtain ⟨b, off, xv, rfl, HX, hbs, e0⟩ := (HA.out.later HB1.out).at (W.length - 1) (by omega)
  obtain rfl : xv = (x : Int) := HX.out.symm.trans hx
  obtain ⟨b', off', sv, rfl, HY, hbs', f0⟩ := HI.out.at (W.length - 1) (by rw [tkS_len]; omega)
  obtain rfl : sv = (s : Int) := by
    have := HY.out
    rw [tkS_at _ _ (by omega), show W.length - 1 + 1 = W.length by omega, List.take_length, hs] at this
    exact this.symm
  have hw1 : IntKind.i64.wrap ((W.length : Int) - 1) = (W.length : Int) - 1 := by rw [IntKind.wrap_i64]; omega
  have hw2 : (0 : Int) ≤ (W.length : Int) - 1 := by omega
  have hw3 : (W.length : Int) - 1 < (W.length : Int) := by omega
  have hw4 : ((W.length : Int) - 1).toNat = W.length - 1 := by omega
  have hxI : (x : Int) < 12 := by omega
  have hsI : (s : Int) < 64 := by omega
  clear hx hs hend
  go_upto_region 4 with fail
  refine wp_region_later (w1.heap.size) (by kernel_rfl) (by kernel_rfl) ?_
  repeat (first | go_big_quiet_skip | (go_big_quiet_want; go_big_quiet_op; go_big_quiet_on))
  refine wpQuiet_nil ?_
  rintro w9 ⟨⟨w9', hb9⟩, h9⟩
  change w9 = w9' at h9
  subst h9
  have HX9 : Hid (Below (w.heap.size + 1) (w.alloc (.cells #[.int .i64 m.size, .slice ad m.doors.length cd, .slice ak m.keys.length ck] 29)) w9) := HX1.out.trans (hb9.mono (by omega))
  have HB9 : Hid (Below w.heap.size w w9) := below_then HB1.out hb9
  clear q0 q1 q2 hw1 hw2 hw3 hw4 e0 f0 hb9
  obtain ⟨q0, q1, q2, z9⟩ := box3 HX9.out (by omega)
  obtain ⟨G, hG⟩ : ∃ G, G = gridD (dM m) := ⟨_, rfl⟩
  have HGE := Lib.hid hG
  have HGL : Hid (G.length = 768) := by rw [hG]; exact gridD_len _
  have HREM : Hid (∀ Wl, Below w.heap.size w Wl → Calls Try.prog 94 #[.agg #[.int .i64 m.size, .slice ad m.doors.length cd, .slice ak m.keys.length ck]] Wl fun e w' => e = .returned (.agg (ints G).toArray) ∧ Below Wl.heap.size Wl w') := by
    rw [hG]
    exact fun Wl hW => remain_c _ m Wl (HM.out.later hW) OK.out
  clear hG
  go_upto_region 6 with (first
    | (go_at_call 94; refine (HREM.out _ HB9.out).mono ?_; rintro e w3 ⟨rfl, hb3⟩; have HB3 : Hid (Below w9.heap.size w9 w3) := hb3; have hst : (storeCells ⟨w3.heap.size, 0, none⟩ (ints G)).run Try.prog (w3.alloc (.cells (ints zer).toArray 75)) = .ok () ((w3.alloc (.cells (ints zer).toArray 75)).setCells w3.heap.size 0 (ints G)) := run_store_grid _ _ HGL.out (GrA.new w3 75 zer_len).there; clear hb3)
    | (refine wpList_alloc_z _ rfl 75 rfl _ HZG.out.1 ?_))
  have hG4 : GrA ((w3.alloc (.cells (ints zer).toArray 75)).setCells w3.heap.size 0 (ints G)) w3.heap.size G := GrA.of HGL.out (GrA.new w3 75 zer_len).there (GrA.new w3 75 zer_len).lt
  have hgr := grown_setCells w3.heap.size (ints G) 0 (w3.alloc (.cells (ints zer).toArray 75))
  have hz3 := HB3.out.size
  have hb4 : Below w9.heap.size w9 ((w3.alloc (.cells (ints zer).toArray 75)).setCells w3.heap.size 0 (ints G)) := Below.grown (HB3.out.alloc hz3 _) hgr (by simp; omega) (fun b hb => by cases hb; exact hz3)
  obtain ⟨W4, hW4⟩ : ∃ W4, W4 = ((w3.alloc (.cells (ints zer).toArray 75)).setCells w3.heap.size 0 (ints G)) := ⟨_, rfl⟩
  rw [← hW4] at hG4 hb4 ⊢
  have HG4 := Lib.hid hG4
  have HB4 : Hid (Below w.heap.size w W4) := below_then HB9.out hb4
  have HX4 : Hid (Below (w.heap.size + 1) (w.alloc (.cells #[.int .i64 m.size, .slice ad m.doors.length cd, .slice ak m.keys.length ck] 29)) W4) := HX9.out.trans (hb4.mono (by omega))
  clear hst hgr hG4 hb4 hW4 q0 q1 q2
  obtain ⟨q0, q1, q2, z4⟩ := box3 HX4.out (by omega)
  have ei := HG4.out.cell (x * 64 + s) (by omega)
  obtain ⟨dv, hdv⟩ : ∃ dv, dv = dM m (x * 64 + s) := ⟨_, rfl⟩
  have HGV : Hid (G[x * 64 + s]! = dv) := by show _ = _; rw [HGE.out, gridD_at _ (by omega), hdv]
  rw [HGV.out] at ei
  have HDV : Hid (dM m (endW m W) = dv) := by show _ = _; rw [HEND.out, hdv]
  have HDV2 := Lib.hid hdv
  clear hdv
  by_cases hneg : dv < 0
  · have HD : Hid (hintB m W = false) := by
      show _ = _
      unfold hintB
      rw [HDV.out, decide_eq_false (by omega), Bool.and_false]
    have hdn : decide (dv < 0) = true := decide_eq_true hneg
    go_wp2_with fail
    go_ret3
    exact ⟨HB4.out, .inr ⟨HD.out, _, _, rfl⟩⟩
  · have hdn : decide (dv < 0) = false := decide_eq_false hneg
    obtain ⟨n, hn⟩ := Int.eq_ofNat_of_zero_le (show 0 ≤ dv by omega)
    have HI9 : Hid ((Try.prog.info? 75).map (·.size) = some (ints G).length) := by show _ = _; rw [length_ints, HGL.out]; exact HZG.out.2
    have HRG := Lib.hid HG4.out.range
    have HWAY : Hid (∀ Wl, Below w.heap.size w Wl → Calls Try.prog 95 #[.agg #[.int .i64 m.size, .slice ad m.doors.length cd, .slice ak m.keys.length ck], .agg (ints G).toArray, .int .i64 (x : Int), .int .i64 (s : Int)] Wl fun e w' => ∃ u, e = .returned u ∧ w'.ownsRow Wl.heap.size 3 1 u n (ints (wayL (nxM m) (dM m) (endW m W) n)) ∧ Below Wl.heap.size Wl w') := by
      rw [HGE.out, HEND.out]
      exact fun Wl hW => wayOn_c _ m x s n Wl (HM.out.later hW) OK.out hxm hs64 (by rw [← HDV2.out, hn])
    have HRES : Hid (mazeB m = true ∧ tkAll m W = true ∧ dM m (endW m W) = (n : Int) ∧ keysL m W = s) := ⟨HT1.out, HT.out, by rw [HDV.out, hn], HS.out⟩
    clear hn hneg
    go_wp2_with fail
    refine wp_load_mid 75 _ rfl w3.heap.size 0 rfl (ints G) _ HRG.out Try.underlying75 rfl HI9.out ?_
    go_wp2_with fail
    refine (HWAY.out _ HB4.out).mono ?_
    rintro e w5 ⟨u5, rfl, ho5, hb5⟩
    obtain ⟨a5, c5, rfl⟩ := own_slice ho5
    have HIC : Hid (IC w5 a5 (wayL (nxM m) (dM m) (endW m W) n)) := ic_of' (Own.of ho5) (wayL_len _ _ _ _).symm
    have HB5 : Hid (Below w.heap.size w w5) := below_then HB4.out hb5
    clear ho5 hb5
    go_wp2_with fail
    go_ret3
    exact ⟨HB5.out, .inl ⟨n, HRES.out.1, HRES.out.2.1, HRES.out.2.2.1, a5, c5, by rw [HRES.out.2.2.2] <;> rfl, HIC.out⟩⟩
theorem pHintAt_no {m : Mz} {W : List Int} (h : hintB m W = false) : pHintAt m W = (0, false) := by
  unfold pHintAt
  rw [if_neg]
  intro h2
  rw [Bool.and_eq_true, decide_eq_true_iff] at h2
  unfold hintB at h
  rw [h2.1, Bool.true_and, decide_eq_false_iff_not] at h
  omega
set_option maxHeartbeats 4000000 in
theorem implHintAt_c (v : Value) (m : Mz) (a : Option Addr) (cap : Nat) (W : List Int) (w : World) (hm : MzAt w v m) (hA : IC w a W) (hl : W.length ≤ 1048576) (wl : ∀ y ∈ W, wfI y) :
    Calls Try.prog 15 #[v, .slice a W.length cap] w fun e w' => e = .returned (.tuple #[.int .i64 (pHintAt m W).1, .bool (pHintAt m W).2]) ∧ Below w.heap.size w w' := by
  have hM := hm
  obtain ⟨⟨ad, cd, ak, ck, rfl, hd, hk'⟩, nd, nk⟩ := hM
  have HM := Lib.hid hm
  have HA := Lib.hid hA
  clear hm hA
  go_enter Try.func15, Try.ntmps15
  go_wp2_with fail
  refine (hint_c _ m _ _ W _ (HM.out.later (by (repeat (first | exact Below.refl _ _ | apply Below.drew | apply below_drewN | (refine Below.setCell ?_ (by first | omega | (simp; done) | (simp; omega) | (dsimp only; omega)) _) | (refine Below.alloc ?_ (by first | omega | (simp; done) | (simp; omega) | (dsimp only; omega)) _))))) (HA.out.later (by (repeat (first | exact Below.refl _ _ | apply Below.drew | apply below_drewN | (refine Below.setCell ?_ (by first | omega | (simp; done) | (simp; omega) | (dsimp only; omega)) _) | (refine Below.alloc ?_ (by first | omega | (simp; done) | (simp; omega) | (dsimp only; omega)) _))))) hl).mono ?_
  rintro e w1 ⟨hb1, hp⟩
  have HB1 : Hid (Below w.heap.size w w1) := below_then (by (repeat (first | exact Below.refl _ _ | apply Below.drew | apply below_drewN | (refine Below.setCell ?_ (by first | omega | (simp; done) | (simp; omega) | (dsimp only; omega)) _) | (refine Below.alloc ?_ (by first | omega | (simp; done) | (simp; omega) | (dsimp only; omega)) _)))) hb1
  clear hb1
  rcases hp with ⟨n, hb, ht, hn, a2, c2, rfl, hi⟩ | ⟨hh, a2, c2, rfl⟩
  · rcases Nat.eq_zero_or_pos n with h0 | h0
    · subst h0
      have HR : Hid (pHintAt m W = (0, false)) := by
        show _ = _
        unfold pHintAt
        rw [if_neg]
        intro h2
        rw [Bool.and_eq_true, decide_eq_true_iff] at h2
        omega
      clear hb ht hn hi
      go_wp2_with fail
      go_ret2
      exact ⟨ret_tup2 (by rw [HR.out] <;> rfl), HB1.out⟩
    · obtain ⟨b, off, x, rfl, HX, hbs, e0⟩ := hi.at 0 (by rw [wayL_len]; exact h0)
      have HR : Hid (pHintAt m W = (x, true)) := by
        show _ = _
        have h1 := HX.out
        rw [wayL_at _ _ _ h0] at h1
        unfold pHintAt
        rw [hb, ht, decide_eq_true (by omega), if_pos (show (true && true && true) = true from rfl), h1]
      rw [Nat.add_zero] at e0
      have hnI : ((n : Int) == 0) = false := by simp; omega
      have hnI2 : (0 : Int) < (n : Int) := by omega
      clear hb ht hn hi
      go_wp2_with fail
      go_ret2
      exact ⟨ret_tup2 (by rw [HR.out] <;> rfl), HB1.out⟩
  · have HR : Hid (pHintAt m W = (0, false)) := pHintAt_no hh
    clear hh
    go_wp2_with fail
    go_ret2
    exact ⟨ret_tup2 (by rw [HR.out] <;> rfl), HB1.out⟩
theorem pHintColours_no {m : Mz} {W : List Int} (h : hintB m W = false) : pHintColours m W = (0, false) := by
  unfold pHintColours
  unfold hintB at h
  rw [h]; rfl
set_option maxHeartbeats 4000000 in
theorem implHintColours_c (v : Value) (m : Mz) (a : Option Addr) (cap : Nat) (W : List Int) (w : World) (hm : MzAt w v m) (hA : IC w a W) (hl : W.length ≤ 1048576) (wl : ∀ y ∈ W, wfI y) :
    Calls Try.prog 19 #[v, .slice a W.length cap] w fun e w' => e = .returned (.tuple #[.int .i64 (pHintColours m W).1, .bool (pHintColours m W).2]) ∧ Below w.heap.size w w' := by
  have hM := hm
  obtain ⟨⟨ad, cd, ak, ck, rfl, hd, hk'⟩, nd, nk⟩ := hM
  have HM := Lib.hid hm
  have HA := Lib.hid hA
  have HK := Lib.hid hk'
  clear hm hA hk'
  go_enter Try.func19, Try.ntmps19
  go_wp2_with fail
  refine (hint_c _ m _ _ W _ (HM.out.later (by (repeat (first | exact Below.refl _ _ | apply Below.drew | apply below_drewN | (refine Below.setCell ?_ (by first | omega | (simp; done) | (simp; omega) | (dsimp only; omega)) _) | (refine Below.alloc ?_ (by first | omega | (simp; done) | (simp; omega) | (dsimp only; omega)) _))))) (HA.out.later (by (repeat (first | exact Below.refl _ _ | apply Below.drew | apply below_drewN | (refine Below.setCell ?_ (by first | omega | (simp; done) | (simp; omega) | (dsimp only; omega)) _) | (refine Below.alloc ?_ (by first | omega | (simp; done) | (simp; omega) | (dsimp only; omega)) _))))) hl).mono ?_
  rintro e w1 ⟨hb1, hp⟩
  have HB1 : Hid (Below w.heap.size w w1) := below_then (by (repeat (first | exact Below.refl _ _ | apply Below.drew | apply below_drewN | (refine Below.setCell ?_ (by first | omega | (simp; done) | (simp; omega) | (dsimp only; omega)) _) | (refine Below.alloc ?_ (by first | omega | (simp; done) | (simp; omega) | (dsimp only; omega)) _)))) hb1
  obtain ⟨q0, q1, q2, z1⟩ := box3 hb1 (by simp)
  clear hb1
  rcases hp with ⟨n, hb, ht, hn, a2, c2, rfl, hi⟩ | ⟨hh, a2, c2, rfl⟩
  · have ok := mazeB_true.1 hb
    have OK := Lib.hid ok
    have hnk := ok.nk
    have hsz2 : m.size ≤ 12 := ok.s2
    obtain ⟨x, s, hx, hs, hxm, hx12, hs64, hend, -⟩ := endW_ok ok ht
    obtain ⟨P, hP⟩ : ∃ P, P = posW (nxM m) (dM m) (endW m W) := ⟨_, rfl⟩
    have HP0 : Hid (P 0 % 64 = s) := by show _ = _; rw [hP, posW, hend]; omega
    have HPK : Hid (∀ k, k < n → ∃ y : Nat, (y : Int) < m.size ∧ y < 12 ∧ P (k + 1) / 64 = y ∧ P (k + 1) % 64 = (P k % 64 ||| m.keys[y]!.toNat)) := by
      intro k hk
      obtain ⟨y, -, h2, h3, h4, h5⟩ := posW_keys ok (i := endW m W) (k := k) (by omega)
      rw [hP]
      exact ⟨y, h2, h3, h4, h5⟩
    have HR : Hid (pHintColours m W = (((andn (P n % 64) s : Nat) : Int), true)) := by
      show _ = _
      unfold pHintColours
      have he : endW m W % 64 = s := by rw [hend]; omega
      rw [hb, ht, decide_eq_true (by omega), if_pos (show (true && true && true) = true from rfl), he, hn, Int.toNat_natCast, hP]
    have HWL : Hid (∀ k, k < n → (wayL (nxM m) (dM m) (endW m W) n)[k]! = ((P (k + 1) / 64 : Nat) : Int)) := by rw [hP]; exact fun k hk => wayL_at _ _ _ hk
    obtain ⟨L, hL⟩ : ∃ L, L = wayL (nxM m) (dM m) (endW m W) n := ⟨_, rfl⟩
    have HLL : Hid (L.length = n) := by rw [hL]; exact wayL_len _ _ _ _
    rw [← hL] at hi HWL
    have HI := Lib.hid hi
    have HS : Hid (keysL m W = s) := hs
    have hn768 : n < 768 := dpos_lt (dM_ok m) (nxM_b ok) (i := endW m W) (by rw [hend]; omega) hn
    rw [hs]
    clear hb ht hn hi hP hL ok hx hs hend
    go_wp2_with fail
    go_loop [9, 24] (fun sv kv => ∃ (k c : Nat), kv = .int .i64 k ∧ k ≤ n ∧ sv = .int .i64 c ∧ c < 64 ∧ Hid (P k % 64 = c)) (fun _ kv => n - (intOf kv).toNat)
    case atStart => exact ⟨0, s, rfl, Nat.zero_le _, rfl, hs64, HP0⟩
    case round =>
      obtain ⟨k, c, rfl, hk, rfl, hc, HC⟩ := hrel
      by_cases hlt : k < n
      · have hkI : (k : Int) < (n : Int) := by omega
        obtain ⟨y, hy1, hy2, hy3, hy4⟩ := HPK.out k hlt
        obtain ⟨b, off, xv, rfl, HX, hbs, e0⟩ := HI.out.at k (by rw [HLL.out]; exact hlt)
        obtain rfl : xv = (y : Int) := by have h1 := HX.out; rw [HWL.out k hlt, hy3] at h1; exact h1.symm
        obtain ⟨bk, offk, kx, rfl, HKX, hbsk, ek⟩ := (HK.out.later HB1.out).at y (by omega)
        have hkx := key_facts OK.out (k := y) (by omega)
        rw [HKX.out] at hkx
        obtain ⟨kn, rfl⟩ := Int.eq_ofNat_of_zero_le hkx.1
        have hkn : kn < 64 := by omega
        obtain ⟨t, ht⟩ : ∃ t, t = c ||| kn := ⟨_, rfl⟩
        have ht64 : t < 64 := by rw [ht]; exact Nat.or_lt_two_pow (n := 6) hc hkn
        have eo : bits .or .i64 (c : Int) (kn : Int) = (t : Int) := by rw [ht]; exact i64_or c kn (by omega) (by omega)
        have HC2 : Hid (P (k + 1) % 64 = t) := by show _ = _; rw [hy4, HC.out, HKX.out, Int.toNat_natCast, ht]
        clear ht hy3 hy4 hkx
        go_wp2_with fail
        go_round
        case rel => exact ⟨k + 1, t, by go_num, by omega, rfl, ht64, HC2⟩
        case measure => simp [intOf]; omega
      · obtain rfl : n = k := by omega
        have ea : bits .andNot .i64 (c : Int) (s : Int) = ((andn c s : Nat) : Int) := i64_andNot c s (by omega)
        go_wp2_with fail
        go_ret2
        exact ⟨ret_tup2 (by rw [HR.out, HC.out] <;> rfl), HB1.out⟩
  · have HR : Hid (pHintColours m W = (0, false)) := pHintColours_no hh
    clear hh
    go_wp2_with fail
    go_ret2
    exact ⟨ret_tup2 (by rw [HR.out] <;> rfl), HB1.out⟩
end Go.Proofs.Ytldogbahbjompaa
