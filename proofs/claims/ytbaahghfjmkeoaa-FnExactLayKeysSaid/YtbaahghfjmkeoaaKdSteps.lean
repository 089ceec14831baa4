/- Contracts of has, steps, keysOf, nexts, largest. -/
import Derived.Test.YtbaahghfjmkeoaaKdNode
import Derived.Test.YtbaahghfjmkeoaaKdFill
set_option linter.unusedVariables false
set_option linter.unusedSimpArgs false
namespace Go.KD
open Go.RowKit
theorem box3 {w wX : World} {T : TypeId} {a b c : Value} {B : Nat} (h : Below B (w.alloc (.cells #[a, b, c] T)) wX) (hB : w.heap.size < B) : wX.cell? ⟨w.heap.size, 0, none⟩ = some a ∧ wX.cell? ⟨w.heap.size, 1, none⟩ = some b ∧ wX.cell? ⟨w.heap.size, 2, none⟩ = some c ∧ w.heap.size < wX.heap.size := by
  refine ⟨?_, ?_, ?_, ?_⟩
  · rw [h.cell (p := ⟨w.heap.size, 0, none⟩) hB]; simp [go_sem]
  · rw [h.cell (p := ⟨w.heap.size, 1, none⟩) hB]; simp [go_sem]
  · rw [h.cell (p := ⟨w.heap.size, 2, none⟩) hB]; simp [go_sem]
  · have := h.size; simp only [World.size_alloc] at this; omega
theorem below_box {w wX : World} {o : Obj} {B : Nat} (h : Below B (w.alloc o) wX) (hB : w.heap.size ≤ B) : Below w.heap.size w wX := ((Below.refl _ _).alloc (Nat.le_refl _) o).trans (h.mono hB)
theorem itL_in {m : Mz} {code : Nat} : ∀ k i, (itL m code k).testBit i = true → code.testBit i = true
  | 0, i, h => by
    have h : (code &&& 1).testBit i = true := h
    rw [Nat.testBit_and, Bool.and_eq_true] at h; exact h.1
  | k + 1, i, h => by
    have h : (itL m code k ||| (nexN m (itL m code k) &&& code)).testBit i = true := h
    rw [Nat.testBit_or, Nat.testBit_and, Bool.or_eq_true, Bool.and_eq_true] at h
    rcases h with h | h
    · exact itL_in k i h
    · exact h.2
def InM (m : Mz) (n : Nat) : Prop := ∀ i, n.testBit i = true → (i : Int) < m.size
theorem InM.lt {m : Mz} {n : Nat} (h : InM m n) (ok : MzOk m) : n < 4096 := lt_of_bits (n := 12) fun i hi => by have := h i hi; have := ok.s2; omega
theorem mem_at {n k : Nat} {x : Int} (hk : k < (mem n).length) (h : (mem n)[k]! = x) : ∃ i : Nat, x = i ∧ n.testBit i = true := by
  have : x ∈ mem n := by rw [← h, getElem!_pos _ k hk]; exact List.getElem_mem hk
  obtain ⟨i, _, h2, h3⟩ := (in_mem n x).1 this
  exact ⟨i, h3, h2⟩
end Go.KD
namespace Go.Proofs.Ytbaahghfjmkeoaa
open Go.RowKit Go.KD
attribute [local go_sem] later_cell later_frozen
theorem has_c (s o : Nat) (ho : o < 4096) (w : World) : Calls Try.prog 122 #[.int .i64 s, .int .i64 o] w fun e w' => e = .returned (.bool (subB o s)) ∧ w = w' := by
  have ha : bits .andNot .i64 (o : Int) (s : Int) = ((andn o s : Nat) : Int) := i64_andNot o s (by omega)
  obtain ⟨y, hy⟩ : ∃ y, y = andn o s := ⟨_, rfl⟩
  rw [← hy] at ha
  have HY := Lib.hid hy; clear hy
  go_enter Try.func122, Try.ntmps122
  go_wp2
  go_ret
  exact ⟨ret_bool (by unfold subB; rw [← HY.out, Bool.eq_iff_iff]; simp), rfl⟩
set_option maxHeartbeats 4000000 in
theorem steps_c (v : Value) (m : Mz) (x : Int) (l : Nat) (w : World) (hm : MzAt w v m) (ok : MzOk m) :
    Calls Try.prog 142 #[v, .int .i64 x, .int .i64 l] w fun e w' => e = .returned (.int .i64 (stN m x l)) ∧ Below w.heap.size w w' := by
  have hM := hm
  obtain ⟨⟨ad, cd, ak, ck, rfl, hd, hk'⟩, nd, nk⟩ := hM
  have hng := ok.nd
  have NL := Lib.hid (stK_lt ok x l)
  obtain ⟨s, gs, ps⟩ := m
  dsimp only at *
  have OK := Lib.hid ok; clear ok
  have hs2 : s ≤ 12 := OK.out.s2
  go_enter Try.func142, Try.ntmps142
  go_wp2
  go_loopw [7, 13] (fun n i wr => ∃ k : Nat, k ≤ gs.length ∧ i = .int .i64 k ∧ n = .int .i64 (stK gs x l k) ∧ Below (w.heap.size + 1) (w.alloc (.cells #[.int .i64 s, .slice ad gs.length cd, .slice ak ps.length ck] 29)) wr) (fun _ i _ => gs.length - (intOf i).toNat)
  case atStart => exact ⟨0, Nat.zero_le _, rfl, rfl, Below.refl _ _⟩
  case round =>
    obtain ⟨wo, rfl⟩ : ∃ wo : World, wo = wr := ⟨_, rfl⟩
    obtain ⟨k, hkl, rfl, rfl, hb⟩ := hrel
    obtain ⟨hc, hf, hz⟩ := bcell3 hb
    simp only [World.size_alloc] at hz
    have hz1 : w.heap.size < wo.heap.size := by omega
    have HB : Hid (Below w.heap.size w wo) := below_box hb (by omega)
    have hn := NL.out k hkl
    have HBo := Lib.hid hb
    by_cases hlt : k < gs.length
    · obtain ⟨b, off, x0, y0, z0, rfl, HX, hbs, e0, e1, e2⟩ := (hd.later HB.out).at k hlt
      obtain ⟨f1, f2, f3, f4, f5⟩ := door_facts OK.out hlt HX.out
      dsimp only at f3
      obtain ⟨xn, rfl⟩ := Int.eq_ofNat_of_zero_le f1
      obtain ⟨yn, rfl⟩ := Int.eq_ofNat_of_zero_le (show 0 ≤ y0 by omega)
      obtain ⟨zn, rfl⟩ := Int.eq_ofNat_of_zero_le f4
      obtain ⟨p, HP, ep, hp⟩ := shl_at xn (by omega)
      obtain ⟨q, HQ, eq, hq⟩ := shl_at yn (by omega)
      have hx0 : (xn : Int) < 12 := by omega
      have hy0 : (yn : Int) < 12 := by omega
      obtain ⟨sN, hsN⟩ : ∃ sN, sN = stK gs x l k := ⟨_, rfl⟩
      rw [← hsN] at hn ⊢
      have HN : Hid (stK gs x l (k + 1) = joinD x l sN ((xn : Int), (yn : Int), (zn : Int))) := by show _ = _; rw [st_step hlt, HX.out, hsN]
      clear hsN
      obtain ⟨s1, hs1⟩ : ∃ s1, s1 = sN ||| q := ⟨_, rfl⟩
      have hs1l : s1 < 4096 := by rw [hs1]; exact Nat.or_lt_two_pow (n := 12) hn hq
      have ea : bits .or .i64 (sN : Int) (q : Int) = (s1 : Int) := by rw [hs1]; exact i64_or sN q (by omega) (by omega)
      have eb : bits .or .i64 (sN : Int) (p : Int) = ((sN ||| p : Nat) : Int) := i64_or sN p (by omega) (by omega)
      have ec : bits .or .i64 (s1 : Int) (p : Int) = ((s1 ||| p : Nat) : Int) := i64_or s1 p (by omega) (by omega)
      have HS1 := Lib.hid hs1; clear hs1
      cases po : subB zn l
      · have HF : Hid (stK gs x l (k + 1) = sN) := by show _ = _; rw [HN.out]; simp [joinD, po]
        go_wp2_with (go_at_call 122; refine (has_c _ _ (by omega) _).mono ?_; rintro e w2 ⟨rfl, rfl⟩; rw [po])
        go_roundw
        case rel => exact ⟨k + 1, by omega, by go_num, by rw [HF.out], HBo.out.alloc (by omega) _⟩
        case measure => simp [intOf]; omega
      · cases p1 : ((xn : Int) == x) <;> cases p2 : ((yn : Int) == x)
        all_goals
          have HF := HN
          go_wp2_with (go_at_call 122; refine (has_c _ _ (by omega) _).mono ?_; rintro e w2 ⟨rfl, rfl⟩; rw [po])
          go_roundw
          case rel =>
            refine ⟨k + 1, by omega, by go_num, ?_, HBo.out.alloc (by omega) _⟩
            rw [HF.out]
            simp only [beq_iff_eq, beq_eq_false_iff_ne] at p1 p2
            have key : joinD x l sN ((xn : Int), (yn : Int), (zn : Int)) = (if (yn : Int) = x then setN (if (xn : Int) = x then setN sN yn else sN) xn else (if (xn : Int) = x then setN sN yn else sN)) := by simp only [joinD, Int.toNat_natCast, po, if_true]
            rw [key]
            first | rw [if_pos p2, if_pos p1] | rw [if_pos p2, if_neg p1] | rw [if_neg p2, if_pos p1] | rw [if_neg p2, if_neg p1]
            all_goals simp [setN, HS1.out, HP.out, HQ.out]
          case measure => simp [intOf]; omega
    · obtain rfl : k = gs.length := by omega
      go_wp2
      go_ret
      exact ⟨rfl, HB.out⟩
