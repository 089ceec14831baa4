/- spec.ClutterOf: what it gives lies in memory of its own. -/
import Derived.Test.YtmilpahggceemaaKdClut5
set_option linter.unusedVariables false
set_option linter.unusedSimpArgs false
namespace Go.Proofs.Ytmilpahggceemaa
open Go.RowKit Go.KD
attribute [local go_sem] later_cell later_frozen
set_option maxRecDepth 100000 in
set_option maxHeartbeats 8000000 in
theorem specClutterOfO_c (a : Option Addr) (c : Nat) (l : List Int) (w : World) (R : List Int) (b : Bool) (hp : pClutterOf l = (R, b)) (hA : IC w a l) (hl : l.length ≤ 1048576) (wl : ∀ y ∈ l, wfI y) : Calls Try.prog 19 #[.slice a l.length c] w fun e w' => ∃ u, e = .returned (.tuple #[u, .bool b]) ∧ w'.ownsRow w.heap.size 3 1 u R.length (ints R) ∧ Below w.heap.size w w' := by
  clear wl
  have HP := Lib.hid hp; clear hp
  have hmk : ∀ W : World, (Instr.makeSlice 93 (.int .i64 64) (.int .i64 64)).run Try.prog W = .ok (.slice (some ⟨W.heap.size, 0, none⟩) 64 64) (W.alloc (.cells (madeCells #[.bool false] 64) 4)) := fun W => run_make_row' 93 4 (.bool false) 1 Try.underlying93 infoB rfl .i64 .i64 64 (by omega) (by omega) W
  have HO0 : Hid ((w.alloc (.cells (madeCells #[.bool false] 64) 4)).ownsRow w.heap.size 4 1 (.slice (some ⟨w.heap.size, 0, none⟩) 64 64) 64 (bools (isR (natL l) 0 0))) := by
    rw [isR_zero]; exact own_madeBl _ rfl (Nat.le_refl _) (by unfold maxLen; omega)
  obtain ⟨wm, hwm⟩ : ∃ wm, wm = w.alloc (.cells (madeCells #[.bool false] 64) 4) := ⟨_, rfl⟩
  have HBM : Hid (Below w.heap.size w wm) := by rw [hwm]; exact (Below.refl _ _).alloc (Nat.le_refl _) _
  have hmk1 := hmk w
  rw [← hwm] at hmk1 HO0
  have HWM := Lib.hid hwm
  clear hmk hwm
  go_enter Try.func19, Try.ntmps19
  go_wp2
  go_loopw [5] (fun i wr => ∃ k : Nat, i = .int .i64 k ∧ k ≤ l.length ∧ Hid (∀ j, j < k → setB l[j]! = true) ∧ Hid (wr.ownsRow w.heap.size 4 1 (.slice (some ⟨w.heap.size, 0, none⟩) 64 64) 64 (bools (isR (natL l) k 0))) ∧ Below w.heap.size w wr) (fun i _ => l.length - (intOf i).toNat)
  case atStart => exact ⟨0, rfl, Nat.zero_le _, fun j hj => by omega, HO0, HBM.out⟩
  case round =>
    clear HO0 HBM hmk1 HWM
    obtain ⟨wo, rfl⟩ : ∃ wo : World, wo = wr := ⟨_, rfl⟩
    obtain ⟨k, rfl, hk, HK, HO, hb⟩ := hrel
    have HB := Lib.hid hb; clear hb
    by_cases hlt : k < l.length
    · have hkI : (k : Int) < (l.length : Int) := by omega
      obtain ⟨b1, off, x, rfl, HX, hbs, e0⟩ := (hA.later HB.out).at k hlt
      cases hsx : setB x
      case false =>
        have HF : Hid (setsB l = false) := by
          show _ = _
          rw [← Bool.not_eq_true]
          intro h
          have := List.all_eq_true.1 h l[k]! (by rw [getElem!_pos l k hlt]; exact List.getElem_mem hlt)
          rw [HX.out, hsx] at this; cases this
        have HPP : Hid (R = [] ∧ b = false) := by
          have := HP.out
          unfold pClutterOf at this
          rw [HF.out] at this
          cases this; exact ⟨rfl, rfl⟩
        go_wp2_with (go_at_call 133; refine (l2Set_c _ _).mono ?_; rintro e w2 ⟨rfl, rfl⟩; simp only [hsx])
        go_ret2
        have HRW : Hid ((wo.alloc (.cells #[] 3)).ownsRow w.heap.size 3 1 (.slice (some ⟨wo.heap.size, 0, none⟩) 0 0) 0 (ints [])) := World.ownsRow_lit _ _ _ HB.out.size (by unfold maxLen; omega) (by rfl)
        exact ⟨_, by rw [HPP.out.2]; rfl, by rw [HPP.out.1]; exact HRW.out, HB.out.alloc HB.out.size _⟩
      case true =>
        obtain ⟨hx0, hx63⟩ := setB_true.1 hsx
        obtain ⟨xn, rfl⟩ := Int.eq_ofNat_of_zero_le hx0
        have hxn : xn < 4096 := by omega
        have HNX : Hid ((natL l)[k]! = xn) := by show _ = _; rw [natL_at hlt, HX.out]; rfl
        have HSX := Lib.hid hsx
        go_wp2_with (go_at_call 133; refine (l2Set_c _ _).mono ?_; rintro e w2 ⟨rfl, rfl⟩; simp only [hsx])
        clear hsx
        go_loopw [6] (fun i wr => ∃ t : Nat, i = .int .i64 t ∧ t ≤ 64 ∧ Hid (wr.ownsRow w.heap.size 4 1 (.slice (some ⟨w.heap.size, 0, none⟩) 64 64) 64 (bools (isR (natL l) k t))) ∧ Below w.heap.size w wr) (fun i _ => 64 - (intOf i).toNat)
        case atStart => exact ⟨0, rfl, by omega, HO, HB.out⟩
        case round =>
          clear HO HB
          obtain ⟨wi, rfl⟩ : ∃ wi : World, wi = wr := ⟨_, rfl⟩
          obtain ⟨t, rfl, ht, HO, hb⟩ := hrel
          have HB := Lib.hid hb; clear hb
          by_cases hlt2 : t < 64
          · have htI : (t : Int) < 64 := by omega
            have ht4 : t < 4096 := by omega
            obtain ⟨b2, off2, x2, hb2, HX2, hbs2, f0⟩ := (hA.later HB.out).at k hlt
            cases hb2
            have hx2 : x2 = (xn : Int) := HX2.out.symm.trans HX.out
            subst hx2
            have c0 := own_boolC HO.out t hlt2 (by simp)
            have c1 := (own_cell HO.out t (by omega)).2
            have HUP : Hid (upB ((natL l).take (k + 1)) t = ((isR (natL l) k t)[t]! || subB xn t)) := by
              show _ = _
              rw [up_step (by simpa using hlt), HNX.out, isR_at _ _ _ hlt2]
              unfold isK
              rw [if_neg (by omega)]
            obtain ⟨bt, hbt⟩ : ∃ bt, bt = (isR (natL l) k t)[t]! := ⟨_, rfl⟩
            rw [← hbt] at c0 HUP
            clear hbt e0
            cases bt
            case true =>
              obtain ⟨ho3, hg3⟩ := own_boolS HO.out t true
              have HO3 : Hid ((wi.setCell ⟨w.heap.size, t, none⟩ (.bool true)).ownsRow w.heap.size 4 1 (.slice (some ⟨w.heap.size, 0, none⟩) 64 64) 64 (bools (isR (natL l) k (t + 1)))) := by
                rw [← isR_set (natL l) k hlt2 (v := true) (by rw [HUP.out]; rfl)]; exact ho3
              clear ho3 hg3
              go_wp2
              go_roundw
              case rel => exact ⟨t + 1, by go_num, by omega, HO3, Below.setCell HB.out (Nat.le_refl _) _⟩
              case measure => simp [intOf]; omega
            case false =>
              obtain ⟨sb, hsb⟩ : ∃ sb, sb = subB xn t := ⟨_, rfl⟩
              rw [← hsb] at HUP
              have HSB := Lib.hid hsb
              clear hsb
              obtain ⟨ho3, hg3⟩ := own_boolS HO.out t sb
              have HO3 : Hid ((wi.setCell ⟨w.heap.size, t, none⟩ (.bool sb)).ownsRow w.heap.size 4 1 (.slice (some ⟨w.heap.size, 0, none⟩) 64 64) 64 (bools (isR (natL l) k (t + 1)))) := by
                rw [← isR_set (natL l) k hlt2 (v := sb) (by rw [HUP.out]; rfl)]; exact ho3
              clear ho3 hg3
              go_wp2_with (go_at_call 134; refine (l2Has_c t xn ht4 hxn _).mono ?_; rintro e w2 ⟨rfl, rfl⟩; rw [← HSB.out])
              go_roundw
              case rel => exact ⟨t + 1, by go_num, by omega, HO3, Below.setCell HB.out (Nat.le_refl _) _⟩
              case measure => simp [intOf]; omega
          · obtain rfl : t = 64 := by omega
            have HN : Hid (∀ j, j < k + 1 → setB l[j]! = true) := by
              intro j hj
              rcases Nat.lt_or_ge j k with h | h
              · exact HK.out j h
              · obtain rfl : j = k := by omega
                rw [HX.out]; exact HSX.out
            go_wp2
            go_roundw
            case rel => exact ⟨k + 1, by go_num, by omega, HN, by rw [← isR_next]; exact HO, HB.out⟩
            case measure => simp [intOf]; omega
    · obtain rfl : k = l.length := by omega
      have HT : Hid (setsB l = true) := by
        show _ = _
        unfold setsB
        rw [List.all_eq_true]
        intro x hx
        obtain ⟨j, hj, rfl⟩ := List.mem_iff_getElem.1 hx
        have := HK.out j hj
        rwa [getElem!_pos l j hj] at this
      have HPP : Hid (R = natsI (lstL (upB (natL l))) ∧ b = true) := by
        have := HP.out
        unfold pClutterOf at this
        rw [HT.out] at this
        cases this; exact ⟨rfl, rfl⟩
      have hcells : ∀ k, k < 64 → wo.cell? ⟨w.heap.size, k, none⟩ = some (.bool (upB (natL l) k)) := by
        intro k hk
        rw [own_boolC HO.out k hk (by simp)]
        have := isR_end (natL l) hk
        rw [natL_len] at this
        rw [this]
      have HCC := Lib.hid hcells
      have hgz := (Own.of HO.out).top w.heap.size rfl
      clear hcells
      go_wp2_with fail
      refine (l6Least_c w.heap.size 64 (upB (natL l)) _ hgz HCC.out).mono ?_
      rintro e w3 ⟨u3, rfl, ho3, hb3⟩
      have HO3 := Lib.hid ho3
      clear ho3
      go_wp2_with fail
      go_ret2
      exact ⟨_, by rw [HPP.out.2]; rfl, by rw [HPP.out.1, natsI_len]; exact (Own.mono (Own.of HO3.out) HB.out.size (Nat.le_refl _)).row, below_then HB.out hb3⟩
end Go.Proofs.Ytmilpahggceemaa
