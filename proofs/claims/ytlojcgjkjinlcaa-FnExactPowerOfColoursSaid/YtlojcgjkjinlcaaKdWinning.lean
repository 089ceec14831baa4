/- Contracts of winning, CountWinning, NeededColours. -/
import Derived.Test.YtlojcgjkjinlcaaKdSetsA
set_option linter.unusedVariables false
set_option linter.unusedSimpArgs false
namespace Go.KD
open Go.RowKit
def winL (m : Mz) (k : Nat) : List Int := ((List.range k).filter (setWinB m)).map fun (i : Nat) => (i : Int)
theorem winL_yes {m : Mz} {k : Nat} (h : setWinB m k = true) : winL m (k + 1) = winL m k ++ [(k : Int)] := by simp [winL, List.range_succ, List.filter_append, h]
theorem winL_no {m : Mz} {k : Nat} (h : setWinB m k = false) : winL m (k + 1) = winL m k := by simp [winL, List.range_succ, List.filter_append, h]
theorem winL_len (m : Mz) (k : Nat) : (winL m k).length ≤ k := by
  unfold winL
  rw [List.length_map]
  exact Nat.le_trans (List.length_filter_le _ _) (by simp)
theorem in_winL {m : Mz} {k : Nat} {x : Int} : x ∈ winL m k ↔ ∃ i : Nat, i < k ∧ setWinB m i = true ∧ x = i := by
  unfold winL
  simp only [List.mem_map, List.mem_filter, List.mem_range]
  constructor
  · rintro ⟨i, ⟨h1, h2⟩, rfl⟩; exact ⟨i, h1, h2, rfl⟩
  · rintro ⟨i, h1, h2, rfl⟩; exact ⟨i, ⟨h1, h2⟩, rfl⟩
theorem winL_at {m : Mz} {n k : Nat} {x : Int} (hk : k < (winL m n).length) (h : (winL m n)[k]! = x) : ∃ i : Nat, i < n ∧ setWinB m i = true ∧ x = i := by
  have : x ∈ winL m n := by rw [← h, getElem!_pos _ k hk]; exact List.getElem_mem hk
  exact in_winL.1 this
noncomputable def pCountWinning (m : Mz) : Int × Bool := if mazeB m then (((winL m 64).length : Int), true) else (0, false)
def neK (m : Mz) : Nat → Nat
  | 0 => 63
  | k + 1 => if setWinB m k then neK m k &&& k else neK m k
theorem neK_lt (m : Mz) : ∀ k, neK m k < 64
  | 0 => by show 63 < 64; omega
  | k + 1 => by
    unfold neK
    split
    · exact Nat.lt_of_le_of_lt Nat.and_le_left (neK_lt m k)
    · exact neK_lt m k
def neL (l : List Int) (j : Nat) : Nat := (l.take j).foldl (fun a x => a &&& x.toNat) 63
theorem neL_step {l : List Int} {j : Nat} (h : j < l.length) : neL l (j + 1) = neL l j &&& l[j]!.toNat := by
  unfold neL
  rw [take_snoc h, List.foldl_append]
  rfl
theorem neL_lt (l : List Int) : ∀ j, j ≤ l.length → neL l j < 64
  | 0, _ => by simp [neL]
  | j + 1, h => by
    rw [neL_step (by omega)]
    exact Nat.lt_of_le_of_lt Nat.and_le_left (neL_lt l j (by omega))
theorem neL_all (m : Mz) : ∀ k, (winL m k).foldl (fun a x => a &&& x.toNat) 63 = neK m k
  | 0 => rfl
  | k + 1 => by
    have ih := neL_all m k
    cases h : setWinB m k
    · rw [winL_no h, ih]; unfold neK; rw [h]; simp; cases k <;> simp [neK]
    · rw [winL_yes h, List.foldl_append, ih]
      show neK m k &&& ((k : Nat) : Int).toNat = if setWinB m k then neK m k &&& k else neK m k
      rw [h]; simp
noncomputable def pNeededColours (m : Mz) : Int × Bool := if mazeB m then ((neK m 64 : Int), true) else (0, false)
end Go.KD
namespace Go.Proofs.Ytlojcgjkjinlcaa
open Go.RowKit Go.KD
attribute [local go_sem] later_cell later_frozen
set_option maxRecDepth 100000 in
set_option maxHeartbeats 4000000 in
theorem those_c (g : Nat) (m : Mz) (ad ak : Option Addr) (cd ck : Nat) (w : World) (hm : MzAt w (.agg #[.int .i64 m.size, .slice ad m.doors.length cd, .slice ak m.keys.length ck]) m) (ok : MzOk m) (q0 : w.cell? ⟨g, 0, none⟩ = some (.int .i64 m.size)) (q1 : w.cell? ⟨g, 1, none⟩ = some (.slice ad m.doors.length cd)) (q2 : w.cell? ⟨g, 2, none⟩ = some (.slice ak m.keys.length ck)) (hg : g < w.heap.size) :
    Calls Try.prog 118 #[.func (.func 119) #[] #[.pointer (some ⟨g, 0, none⟩)]] w fun e w' => ∃ u, e = .returned u ∧ w'.ownsRow w.heap.size 3 1 u (winL m 64).length (ints (winL m 64)) ∧ Below w.heap.size w w' := by
  obtain ⟨i0, ji, jz0, jz1, jz2⟩ := info_parts infoI
  have hcf := run_callFunc (P := Try.prog) Try.func119 (by kernel_rfl) (by kernel_rfl)
  have OK := Lib.hid ok; clear ok
  have HQ := Lib.hid (And.intro q0 (And.intro q1 q2)); clear q0 q1 q2
  go_enter Try.func118, Try.ntmps118
  go_wp2
  go_loopw [3, 6] (fun u t wr => ∃ k : Nat, t = .int .i64 k ∧ k ≤ 64 ∧ Below w.heap.size w wr ∧ Hid (wr.ownsRow w.heap.size 3 1 u (winL m k).length (ints (winL m k)))) (fun _ t _ => 64 - (intOf t).toNat)
  case atStart => exact ⟨0, rfl, by omega, (Below.refl _ _).alloc (Nat.le_refl _) _, World.ownsRow_lit _ _ _ (Nat.le_refl _) (by unfold maxLen; omega) (by rfl)⟩
  case round =>
    obtain ⟨wo, rfl⟩ : ∃ wo : World, wo = wr := ⟨_, rfl⟩
    obtain ⟨s, rfl, hs64, hb, HO⟩ := hrel
    have HBo := Lib.hid hb
    have hz := hb.size
    have hlen := winL_len m s
    obtain ⟨aM, cM, rfl⟩ := own_slice HO.out
    by_cases hs : s < 64
    · have hsI : (s : Int) < 64 := by omega
      have r0 := (hb.cell (p := ⟨g, 0, none⟩) hg).trans HQ.out.1
      have r1 := (hb.cell (p := ⟨g, 1, none⟩) hg).trans HQ.out.2.1
      have r2 := (hb.cell (p := ⟨g, 2, none⟩) hg).trans HQ.out.2.2
      have HRR := Lib.hid (And.intro r0 (And.intro r1 r2))
      clear hb r0 r1 r2
      cases hw : setWinB m s
      · have HL := Lib.hid (winL_no hw)
        go_wp2_with fail
        refine (winning1_c s g m ad ak cd ck _ (hm.later HBo.out) OK.out hs HRR.out.1 HRR.out.2.1 HRR.out.2.2).mono ?_
        rintro e w1 ⟨rfl, hb1⟩
        rw [hw]
        go_wp2_with fail
        go_roundw
        case rel => exact ⟨s + 1, by go_num, by omega, below_then HBo.out hb1, by rw [HL.out]; exact own_below HO.out hb1⟩
        case measure => simp [intOf]; omega
      · have HL := Lib.hid (winL_yes hw)
        go_wp2_with fail
        refine (winning1_c s g m ad ak cd ck _ (hm.later HBo.out) OK.out hs HRR.out.1 HRR.out.2.1 HRR.out.2.2).mono ?_
        rintro e w1 ⟨rfl, hb1⟩
        rw [hw]
        have HB1 := Lib.hid (below_then HBo.out hb1)
        have HO1 := Lib.hid (own_below HO.out hb1)
        have hz1 := HB1.out.size
        clear hb1
        go_wp2_with (at_builtin; refine wpList_append_own _ rfl _ _ 23 rfl w.heap.size 3 i0 (.int .i64 0) 1 8 Try.underlying23 ji jz0 jz1 jz2 rfl (by decide) _ _ _ rfl (HO1.out.alloc _) ⟨w1.heap.size, 0, none⟩ 1 1 [.int .i64 s] rfl rfl ?_ ?_ ?_ ?_ ?_ ?_; (exact cell_one_new _ _ _); (simp [Value.oneCell']); (unfold maxLen; omega); omega; (simp; omega); intro v' w5 hown' hgrow _)
        go_roundw
        case rel => exact ⟨s + 1, by go_num, by omega, (HB1.out.alloc hz1 _).grown hgrow (by simp; omega) (fun g hg => own_block_lo HO1.out hg), by rw [HL.out, ints_snoc, List.length_append]; exact hown'⟩
        case measure => simp [intOf]; omega
    · obtain rfl : s = 64 := by omega
      go_wp2
      go_ret
      exact ⟨_, rfl, HO.out, HBo.out⟩
set_option maxHeartbeats 1000000 in
theorem winning_c (v : Value) (m : Mz) (w : World) (hm : MzAt w v m) (ok : MzOk m) : Calls Try.prog 90 #[v] w fun e w' =>
    ∃ u, e = .returned u ∧ w'.ownsRow w.heap.size 3 1 u (winL m 64).length (ints (winL m 64)) ∧ Below w.heap.size w w' := by
  have hM := hm
  obtain ⟨⟨ad, cd, ak, ck, rfl, hd, hk'⟩, nd, nk⟩ := hM
  have OK := Lib.hid ok; clear ok
  go_enter Try.func90, Try.ntmps90
  go_wp2_with fail
  refine (those_c w.heap.size m ad ak cd ck _ (hm.later (by (repeat (first | exact Below.refl _ _ | apply Below.drew | apply below_drewN | (refine Below.setCell ?_ (by first | omega | (simp; done) | (simp; omega) | (dsimp only; omega)) _) | (refine Below.alloc ?_ (by first | omega | (simp; done) | (simp; omega) | (dsimp only; omega)) _))))) OK.out (by simp [go_sem]) (by simp [go_sem]) (by simp [go_sem]) (by simp)).mono ?_
  rintro e w1 ⟨u, rfl, ho, hb1⟩
  have HO := Lib.hid ho
  clear ho
  go_wp2_with fail
  go_ret
  exact ⟨_, rfl, (Own.mono (Own.of HO.out) (by simp) (Nat.le_refl _)).row, below_then (by (repeat (first | exact Below.refl _ _ | apply Below.drew | apply below_drewN | (refine Below.setCell ?_ (by first | omega | (simp; done) | (simp; omega) | (dsimp only; omega)) _) | (refine Below.alloc ?_ (by first | omega | (simp; done) | (simp; omega) | (dsimp only; omega)) _)))) hb1⟩
