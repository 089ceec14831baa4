/- Draws of sets of colours: few, colours, sets. -/
import Derived.Test.YtmilpahggceemaaKdCur
import Derived.Test.YtmilpahggceemaaKdSort
import Derived.Laws.AppendOwn
import Derived.Deep.OwnRows
set_option linter.unusedVariables false
set_option linter.unusedSimpArgs false
namespace Go.KD
open Go.RowKit
theorem ic_litC {w w' : World} {c n g : Nat} {e : TypeId} {cs : Array Value} {l : List Int} (hcs : cs.toList = ints l) (hn : n = l.length) (hm : n ≤ 100) (hc : c < w.heap.size) (h : Chg c (c + 1) (w.alloc (.cells cs e)) w') (hg : w.heap.size = g) : IC w' (some ⟨g, 0, none⟩) l := by
  subst hn
  subst hg
  have hl := World.ownsRow_lit (base := w.heap.size) (e := e) (size := 1) w cs l.length (Nat.le_refl _) (by unfold maxLen; omega) (by have := congrArg List.length hcs; simp at this; omega)
  rw [hcs] at hl
  have ho : Own w.heap.size (w.alloc (.cells cs e)).heap.size (w.alloc (.cells cs e)) e 1 _ l.length (ints l) := Own.of hl
  exact ic_of (ho.chg h (.inr (by omega)))
/-- Cursor and world behind some draws. -/
structure CuW (c n : Nat) (w w' : World) : Prop where
  ch : Chg c (c + 1) w w'
  cu : Cu c n w'
theorem CuW.mono {c n n' : Nat} {w w' : World} (h : CuW c n w w') (hn : n ≤ n') : CuW c n' w w' := ⟨h.ch, h.cu.mono hn⟩
theorem CuW.trans {c n n' : Nat} {w w1 w2 : World} (h : CuW c n w w1) (k : CuW c n' w1 w2) : CuW c n' w w2 := ⟨h.ch.trans k.ch, k.cu⟩
theorem CuW.refl {c n : Nat} {w : World} (h : Cu c n w) : CuW c n w w := ⟨Chg.refl _ _ _, h⟩
theorem CuW.below {c n B : Nat} {w w1 w2 : World} (h : CuW c n w w1) (k : Below B w1 w2) (hB : w1.heap.size ≤ B) : CuW c n w w2 := ⟨h.ch.then_below k hB, h.cu.later k (by have := h.cu.lt; omega)⟩
theorem CuW.alloc {c n : Nat} {w w1 : World} (h : CuW c n w w1) (o : Obj) : CuW c n w (w1.alloc o) := h.below ((Below.refl _ _).alloc (Nat.le_refl _) o) (Nat.le_refl _)
theorem CuW.drewN {c n : Nat} {w w1 : World} (h : CuW c n w w1) (k : Nat) : CuW c n w (w1.drewN k) := h.below (below_drewN (Below.refl _ _) k) (Nat.le_refl _)
theorem CuW.drew {c n : Nat} {w w1 : World} (h : CuW c n w w1) : CuW c n w w1.drew := h.below (Below.refl _ _).drew (Nat.le_refl _)
theorem CuW.grown {c n base : Nat} {w w1 w2 : World} {row : Option Nat} (h : CuW c n w w1) (hg : w1.grownBy w2 row) (hr : ∀ g, row = some g → base ≤ g) (hb : w.heap.size ≤ base) (hc : c < w.heap.size) : CuW c n w w2 := by
  have hs := h.ch.size
  refine ⟨⟨hg.os.trans h.ch.os, hg.tape.trans h.ch.tape, hg.output.trans h.ch.output, Nat.le_trans h.ch.size hg.size, fun k hk hd => ?_⟩, h.cu.same hg.size fun k hk => ?_⟩
  · rw [hg.block k (by omega) (fun e => by have := hr k e.symm; omega)]
    exact h.ch.block k hk hd
  · exact hg.block k (by have := h.cu.lt; omega) (fun e => by have := hr k e.symm; omega)
theorem own_chgC {w1 w2 : World} {base c size n : Nat} {e : TypeId} {v : Value} {xs : List Value} (h : w1.ownsRow base e size v n xs) (hc : Chg c (c + 1) w1 w2) (hb : c < base) : w2.ownsRow base e size v n xs := ((Own.of h).chg hc (.inr (by omega))).row
/-- A number that a draw gives. -/
def SomeI (c n : Nat) (w : World) (e : Ending) (w' : World) : Prop := ∃ x : Int, e = .returned (.int .i64 x) ∧ wfI x ∧ CuW c n w w'
/-- A list that a draw gives. -/
def ListP (c n k : Nat) (e0 : TypeId) (w : World) (e : Ending) (w' : World) : Prop := ∃ v, ∃ L : List Int, e = .returned v ∧ w'.ownsRow w.heap.size e0 1 v L.length (ints L) ∧ L.length ≤ k ∧ (∀ x ∈ L, wfI x) ∧ CuW c n w w'
theorem wfI_small {x : Int} (h0 : -4611686018427387904 ≤ x) (h1 : x ≤ 4611686018427387904) : wfI x := by
  have h : IntKind.i64.min ≤ x ∧ x ≤ IntKind.i64.max := ⟨Int.le_trans (by decide) h0, Int.le_trans h1 (by decide)⟩
  simpa [wfI, Lit.wf] using h
end Go.KD
namespace Go.Proofs.Ytmilpahggceemaa
open Go.RowKit Go.KD
attribute [local go_sem] later_cell later_frozen
set_option maxHeartbeats 4000000 in
theorem few_c (c n k : Nat) (hk0 : 0 < k) (hk : k ≤ 6) (hn : n ≤ 800000) (w : World) (h : Cu c n w) : Calls Try.prog 262 #[.pointer (some ⟨c, 0, none⟩), .int .i64 k] w (NatP c (n + 6) 64 w) := by
  have HC := Lib.hid h
  have hcz := h.lt
  clear h
  go_enter Try.func262, Try.ntmps262
  go_wp2_with fail
  refine (among_c c n 5 5 _ [0, 1, 1, 1, 2] rfl (by omega) (by omega) (by omega) _ (HC.out.later ((Below.refl _ _).alloc (Nat.le_refl _) _) hcz) (fun w' hc => ic_litC rfl rfl (by decide) hcz hc rfl)).mono ?_
  rintro e w1 ⟨x, rfl, hx, hc1, hu1⟩
  obtain ⟨j, rfl, hj⟩ : ∃ j : Nat, x = j ∧ j ≤ 2 := by simp at hx; exact ⟨x.toNat, by omega, by omega⟩
  have HW1 : Hid (CuW c (n + 2) w w1) := ((CuW.refl HC.out).alloc _).trans ⟨hc1, hu1⟩
  clear hx hc1 hu1
  go_wp2_with fail
  go_loopw [5, 6] (fun s i wr => ∃ t j : Nat, s = .int .i64 t ∧ t < 64 ∧ i = .int .i64 j ∧ j ≤ 2 ∧ Hid (CuW c (n + 6 - 2 * j) w wr)) (fun _ i _ => (intOf i).toNat)
  case atStart => exact ⟨0, j, rfl, by omega, rfl, hj, HW1.out.mono (by omega)⟩
  case round =>
    clear HW1 hj
    obtain ⟨wi, rfl⟩ : ∃ wi : World, wi = wr := ⟨_, rfl⟩
    obtain ⟨t, j, rfl, ht, rfl, hj, HW⟩ := hrel
    by_cases h0 : 0 < j
    · have h0I : (0 : Int) < (j : Int) := by omega
      go_wp2_with fail
      refine (pick_c c (n + 6 - 2 * j) k hk0 (by omega) (by omega) _ HW.out.cu).mono ?_
      rintro e w2 ⟨r, rfl, hr, hc2, hu2⟩
      obtain ⟨p, HP, ep, hp⟩ := shl_at r (by omega)
      have hp64 : p < 64 := by rw [HP.out]; exact Nat.pow_lt_pow_right (n := 6) (by omega) (by omega)
      have eo : bits .or .i64 (t : Int) (p : Int) = ((t ||| p : Nat) : Int) := i64_or t p (by omega) (by omega)
      have ht2 : t ||| p < 64 := Nat.or_lt_two_pow (n := 6) ht hp64
      have HW2 : Hid (CuW c (n + 6 - 2 * (j - 1)) w w2) := (HW.out.trans ⟨hc2, hu2⟩).mono (by omega)
      have hr63 : (r : Int) < 64 := by omega
      have hr0 : (0 : Int) ≤ (r : Int) := by omega
      clear hc2 hu2
      go_wp2_with fail
      go_roundw
      case rel => exact ⟨t ||| p, j - 1, rfl, ht2, by go_num, by omega, HW2⟩
      case measure => simp [intOf]; omega
    · obtain rfl : j = 0 := by omega
      go_wp2
      go_ret
      exact ⟨t, rfl, ht, HW.out.ch, HW.out.cu.mono (by omega)⟩
set_option maxHeartbeats 4000000 in
theorem colours_c (c n : Nat) (hn : n ≤ 800000) (w : World) (h : Cu c n w) : Calls Try.prog 136 #[.pointer (some ⟨c, 0, none⟩)] w (SomeI c (n + 10) w) := by
  have HC := Lib.hid h
  have hcz := h.lt
  clear h
  go_enter Try.func136, Try.ntmps136
  go_wp2_with fail
  refine (one_c c n 30 (by omega) (by omega) (by omega) _ HC.out).mono ?_
  rintro e w1 ⟨b, rfl, hc1, hu1⟩
  have HW1 : Hid (CuW c (n + 2) w w1) := ⟨hc1, hu1⟩
  have hcz1 := hu1.lt
  clear hc1 hu1
  cases b
  · go_wp2_with fail
    refine (pick_c c (n + 2) 4 (by omega) (by omega) (by omega) _ HW1.out.cu).mono ?_
    rintro e w2 ⟨j, rfl, hj, hc2, hu2⟩
    have HW2 : Hid (CuW c (n + 4) w w2) := HW1.out.trans ⟨hc2, hu2⟩
    clear hc2 hu2 HW1
    go_wp2_with fail
    go_loopw [3, 4] (fun s i wr => ∃ t j : Nat, s = .int .i64 t ∧ t < 64 ∧ i = .int .i64 j ∧ j ≤ 3 ∧ Hid (CuW c (n + 10 - 2 * j) w wr)) (fun _ i _ => (intOf i).toNat)
    case atStart => exact ⟨0, j, rfl, by omega, rfl, by omega, HW2.out.mono (by omega)⟩
    case round =>
      clear HW2 hj
      obtain ⟨wi, rfl⟩ : ∃ wi : World, wi = wr := ⟨_, rfl⟩
      obtain ⟨t, j, rfl, ht, rfl, hj, HW⟩ := hrel
      by_cases h0 : 0 < j
      · have h0I : (0 : Int) < (j : Int) := by omega
        go_wp2_with fail
        refine (pick_c c (n + 10 - 2 * j) 6 (by omega) (by omega) (by omega) _ HW.out.cu).mono ?_
        rintro e w2 ⟨r, rfl, hr, hc2, hu2⟩
        obtain ⟨p, HP, ep, hp⟩ := shl_at r (by omega)
        have hp64 : p < 64 := by rw [HP.out]; exact Nat.pow_lt_pow_right (n := 6) (by omega) (by omega)
        have eo : bits .or .i64 (t : Int) (p : Int) = ((t ||| p : Nat) : Int) := i64_or t p (by omega) (by omega)
        have ht2 : t ||| p < 64 := Nat.or_lt_two_pow (n := 6) ht hp64
        have HW2 : Hid (CuW c (n + 10 - 2 * (j - 1)) w w2) := (HW.out.trans ⟨hc2, hu2⟩).mono (by omega)
        have hr63 : (r : Int) < 64 := by omega
        have hr0 : (0 : Int) ≤ (r : Int) := by omega
        clear hc2 hu2
        go_wp2_with fail
        go_roundw
        case rel => exact ⟨t ||| p, j - 1, rfl, ht2, by go_num, by omega, HW2⟩
        case measure => simp [intOf]; omega
      · obtain rfl : j = 0 := by omega
        go_wp2
        go_ret
        exact ⟨(t : Int), rfl, wfI_small (by omega) (by omega), HW.out.mono (by omega)⟩
  · go_wp2_with fail
    refine (among_c c (n + 2) 4 4 _ [63, 64, -1, 4611686018427387904] rfl (by omega) (by omega) (by omega) _ (HW1.out.cu.later ((Below.refl _ _).alloc (Nat.le_refl _) _) hcz1) (fun w' hc => ic_litC rfl rfl (by decide) hcz1 hc (by first | rfl | simp))).mono ?_
    rintro e w2 ⟨x, rfl, hx, hc2, hu2⟩
    have hxw : wfI x := by simp at hx; rcases hx with rfl | rfl | rfl | rfl <;> exact wfI_small (by decide) (by decide)
    have HW2 : Hid (CuW c (n + 4) w w2) := (HW1.out.alloc _).trans ⟨hc2, hu2⟩
    clear hx hc2 hu2
    go_wp2_with fail
    go_ret
    exact ⟨x, rfl, hxw, HW2.out.mono (by omega)⟩
set_option maxRecDepth 100000 in
set_option maxHeartbeats 4000000 in
theorem sets_c (c n : Nat) (hn : n ≤ 700000) (w : World) (h : Cu c n w) : Calls Try.prog 132 #[.pointer (some ⟨c, 0, none⟩)] w (ListP c (n + 62) 7 3 w) := by
  obtain ⟨i0, hi, hz0, hz1, hz2⟩ := info_parts infoI
  have HC := Lib.hid h
  have hcz := h.lt
  clear h
  have HA : Hid (CuW c n w (w.alloc (.cells #[] 3))) := (CuW.refl HC.out).alloc _
  have HR : Hid ((w.alloc (.cells #[] 3)).ownsRow w.heap.size 3 1 (.slice (some ⟨w.heap.size, 0, none⟩) 0 0) 0 (ints [])) := World.ownsRow_lit _ _ _ (Nat.le_refl _) (by unfold maxLen; omega) (by rfl)
  have hcz1 : c < (w.alloc (.cells #[] 3)).heap.size := by simp; omega
  go_enter Try.func132, Try.ntmps132
  go_wp2_with fail
  refine (among_c c n 6 6 _ [3, 2, 4, 1, 0, 6] rfl (by omega) (by omega) (by omega) _ (HA.out.cu.later ((Below.refl _ _).alloc (Nat.le_refl _) _) hcz1) (fun w' hc => ic_litC rfl rfl (by decide) hcz1 hc (by simp))).mono ?_
  rintro e w1 ⟨x, rfl, hx, hc1, hu1⟩
  obtain ⟨j, rfl, hj⟩ : ∃ j : Nat, x = j ∧ j ≤ 6 := by simp at hx; exact ⟨x.toNat, by omega, by omega⟩
  have HW1 : Hid (CuW c (n + 2) w w1) := (HA.out.alloc _).trans ⟨hc1, hu1⟩
  have HR1 : Hid (w1.ownsRow w.heap.size 3 1 (.slice (some ⟨w.heap.size, 0, none⟩) 0 0) 0 (ints [])) := own_chgC (HR.out.alloc _) hc1 hcz
  clear hx hc1 hu1 HA HR
  go_wp2_with fail
  go_loopw [3, 4] (fun s i wr => ∃ j : Nat, ∃ L : List Int, i = .int .i64 j ∧ j ≤ 6 ∧ L.length ≤ 6 - j ∧ Hid (wr.ownsRow w.heap.size 3 1 s L.length (ints L)) ∧ Hid (∀ x ∈ L, wfI x) ∧ Hid (CuW c (n + 58 - 8 * j) w wr)) (fun _ i _ => (intOf i).toNat)
  case atStart => exact ⟨j, [], rfl, hj, Nat.zero_le _, HR1, fun x hx => (by cases hx), HW1.out.mono (by omega)⟩
  case round =>
    clear HW1 HR1 hj
    obtain ⟨wi, rfl⟩ : ∃ wi : World, wi = wr := ⟨_, rfl⟩
    obtain ⟨j, L, rfl, hj, hL, HR, HL, HW⟩ := hrel
    by_cases h0 : 0 < j
    · have h0I : (0 : Int) < (j : Int) := by omega
      go_wp2_with fail
      refine (few_c c (n + 58 - 8 * j) 6 (by omega) (by omega) (by omega) _ HW.out.cu).mono ?_
      rintro e w2 ⟨t, rfl, ht, hc2, hu2⟩
      have HW2 : Hid (CuW c (n + 64 - 8 * j) w w2) := (HW.out.trans ⟨hc2, hu2⟩).mono (by omega)
      have HR2 := Lib.hid (own_chgC HR.out hc2 hcz)
      clear hc2 hu2
      go_wp2_with fail
      refine (pick_c c (n + 64 - 8 * j) 6 (by omega) (by omega) (by omega) _ HW2.out.cu).mono ?_
      rintro e w3 ⟨r, rfl, hr, hc3, hu3⟩
      have HW3 : Hid (CuW c (n + 58 - 8 * (j - 1)) w w3) := (HW2.out.trans ⟨hc3, hu3⟩).mono (by omega)
      have HR3 := Lib.hid (own_chgC HR2.out hc3 hcz)
      clear hc3 hu3
      obtain ⟨p, HP, ep, hp⟩ := shl_at r (by omega)
      have hp64 : p < 64 := by rw [HP.out]; exact Nat.pow_lt_pow_right (n := 6) (by omega) (by omega)
      have eo : bits .or .i64 (t : Int) (p : Int) = ((t ||| p : Nat) : Int) := i64_or t p (by omega) (by omega)
      have ht2 : t ||| p < 64 := Nat.or_lt_two_pow (n := 6) ht hp64
      obtain ⟨q, hq⟩ : ∃ q, q = t ||| p := ⟨_, rfl⟩
      rw [← hq] at eo ht2
      clear hq
      have hr63 : (r : Int) < 64 := by omega
      have hr0 : (0 : Int) ≤ (r : Int) := by omega
      have hz3 := HW3.out.ch.size
      go_wp2_with (at_builtin; refine wpList_append_own _ rfl _ _ 24 rfl w.heap.size 3 i0 (.int .i64 0) 1 8 Try.underlying24 hi hz0 hz1 hz2 rfl (by decide) _ _ _ rfl (HR3.out.alloc _) ⟨w3.heap.size, 0, none⟩ 1 1 [.int .i64 (q : Int)] rfl rfl ?_ ?_ ?_ ?_ ?_ ?_; (exact cell_one_new _ _ _); (simp [Value.oneCell']); (unfold maxLen; omega); omega; (simp; omega); intro v' w4 hown' hgrow _)
      go_roundw
      case rel => exact ⟨j - 1, L ++ [(q : Int)], by go_num, by omega, by rw [List.length_append]; simp; omega, by rw [ints_snoc, List.length_append]; exact hown', fun x hx => (by
        rw [List.mem_append] at hx
        rcases hx with hx | hx
        · exact HL.out x hx
        · have : x = (q : Int) := by simpa using hx
          rw [this]; exact wfI_small (by omega) (by omega)), (HW3.out.alloc _).grown hgrow (fun g hg => own_block_lo HR3.out hg) (Nat.le_refl _) hcz⟩
      case measure => simp [intOf]; omega
    · obtain rfl : j = 0 := by omega
      go_wp2_with fail
      refine (one_c c (n + 58 - 8 * 0) 12 (by omega) (by omega) (by omega) _ HW.out.cu).mono ?_
      rintro e w2 ⟨b, rfl, hc2, hu2⟩
      have HW2 : Hid (CuW c (n + 60) w w2) := (HW.out.trans ⟨hc2, hu2⟩).mono (by omega)
      have HR2 := Lib.hid (own_chgC HR.out hc2 hcz)
      have hcz2 := hu2.lt
      clear hc2 hu2
      cases b
      · go_wp2_with fail
        go_ret
        exact ⟨_, L, rfl, HR2.out, by omega, HL.out, HW2.out.mono (by omega)⟩
      · go_wp2_with fail
        refine (among_c c (n + 60) 5 5 _ [0, 0, 63, 64, -1] rfl (by omega) (by omega) (by omega) _ (HW2.out.cu.later ((Below.refl _ _).alloc (Nat.le_refl _) _) hcz2) (fun w' hc => ic_litC rfl rfl (by decide) hcz2 hc rfl)).mono ?_
        rintro e w3 ⟨x, rfl, hx, hc3, hu3⟩
        have hxw : wfI x := by simp at hx; rcases hx with rfl | rfl | rfl | rfl <;> exact wfI_small (by decide) (by decide)
        have HW3 : Hid (CuW c (n + 62) w w3) := (HW2.out.alloc _).trans ⟨hc3, hu3⟩
        have HR3 := Lib.hid (own_chgC (HR2.out.alloc _) hc3 hcz)
        have HX := Lib.hid hxw
        have hz3 := HW3.out.ch.size
        clear hx hc3 hu3 hxw
        go_wp2_with (at_builtin; refine wpList_append_own _ rfl _ _ 24 rfl w.heap.size 3 i0 (.int .i64 0) 1 8 Try.underlying24 hi hz0 hz1 hz2 rfl (by decide) _ _ _ rfl (HR3.out.alloc _) ⟨w3.heap.size, 0, none⟩ 1 1 [.int .i64 x] rfl rfl ?_ ?_ ?_ ?_ ?_ ?_; (exact cell_one_new _ _ _); (simp [Value.oneCell']); (unfold maxLen; omega); omega; (simp; omega); intro v' w4 hown' hgrow _)
        go_ret
        exact ⟨_, L ++ [x], rfl, by rw [ints_snoc, List.length_append]; exact hown', by rw [List.length_append]; simp; omega, fun y hy => (by
          rw [List.mem_append] at hy
          rcases hy with hy | hy
          · exact HL.out y hy
          · have : y = x := by simpa using hy
            rw [this]; exact HX.out), (HW3.out.alloc _).grown hgrow (fun g hg => own_block_lo HR3.out hg) (Nat.le_refl _) hcz⟩
end Go.Proofs.Ytmilpahggceemaa
