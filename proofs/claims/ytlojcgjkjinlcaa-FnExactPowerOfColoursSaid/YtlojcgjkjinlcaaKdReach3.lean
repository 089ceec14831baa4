/- Contract of the reference's l2Reach. -/
import Derived.Test.YtlojcgjkjinlcaaKdReach2
import Derived.Test.YtlojcgjkjinlcaaKdPut2
import Derived.Deep.AppendLies
set_option linter.unusedVariables false
set_option linter.unusedSimpArgs false
namespace Go.KD
open Go.RowKit
theorem mem_two : ∀ x : Nat, x < 12 → mem (2 ^ x) = [(x : Int)] := by decide
/-- A sorted list of nodes and a queue of nodes, apart. -/
def RM (base : Nat) (ty : TypeId) (w : World) (u l : Value) (O : Nat) (T : List Int) : Prop :=
  ∃ bo oo co g cg, u = .slice (some ⟨bo, oo, none⟩) (mem O).length co ∧ l = .slice (some ⟨g, 0, none⟩) T.length cg ∧ IC w (some ⟨bo, oo, none⟩) (mem O) ∧ (mem O).length ≤ co ∧ co ≤ maxLen ∧ bo < w.heap.size ∧
    w.ownsRow base ty 1 (.slice (some ⟨g, 0, none⟩) T.length cg) T.length (ints T) ∧ g ≠ bo ∧ base ≤ bo
theorem RM.later {base : Nat} {ty : TypeId} {w w' : World} {u l : Value} {O : Nat} {T : List Int} (h : RM base ty w u l O T) (hb : Below w.heap.size w w') : RM base ty w' u l O T := by
  obtain ⟨bo, oo, co, g, cg, h1, h2, h3, h4, h5, h6, h7, h8, h9⟩ := h
  exact ⟨bo, oo, co, g, cg, h1, h2, h3.later hb, h4, h5, by have := hb.size; omega, own_below h7 hb, h8, h9⟩
theorem ic_grown {w w' : World} {b off : Nat} {l : List Int} {row : Option Nat} (h : IC w (some ⟨b, off, none⟩) l) (hg : w.grownBy w' row) (hne : ∀ g, row = some g → g ≠ b) : IC w' (some ⟨b, off, none⟩) l := by
  intro k hk
  obtain ⟨b', off', hb, hbs, hc⟩ := h k hk
  cases hb
  refine ⟨b, off, rfl, Nat.lt_of_lt_of_le hbs hg.size, ?_⟩
  rw [← hc]
  exact World.cell?_of_block (hg.block b hbs (fun e => hne b e.symm rfl))
end Go.KD
namespace Go.Proofs.Ytlojcgjkjinlcaa
open Go.RowKit Go.KD
attribute [local go_sem] later_cell later_frozen
set_option maxRecDepth 100000 in
set_option maxHeartbeats 16000000 in
theorem l2ReachB_c (v : Value) (m : Mz) (x s : Nat) (w : World) (hm : MzAt w v m) (ok : MzOk m) (hx : (x : Int) < m.size) (hs : s < 64) :
    Calls Try.prog 126 #[v, .int .i64 x, .int .i64 s] w fun e w' => ∃ b o c, e = .returned (.slice (some ⟨b, o, none⟩) (mem (reachN m x s)).length c) ∧ IC w' (some ⟨b, o, none⟩) (mem (reachN m x s)) ∧ w.heap.size ≤ b ∧ b < w'.heap.size ∧ Below w.heap.size w w' := by
  have hM := hm
  obtain ⟨⟨ad, cd, ak, ck, rfl, hd, hk'⟩, nd, nk⟩ := hM
  obtain ⟨i0, ji, jz0, jz1, jz2⟩ := info_parts infoI
  have hs12 : m.size ≤ 12 := ok.s2
  have hx12 : x < 12 := by omega
  have hng : m.doors.length ≤ 30 := ok.nd
  have HS0 : Hid (Sr m s x (2 ^ x) [(x : Int)]) := Sr.start hx
  have HX := Lib.hid hx; clear hx
  have HMT := Lib.hid (mem_two x hx12)
  have HP1 := Lib.hid (pop_one x hx12)
  have OK := Lib.hid ok; clear ok
  have HR0 : Hid (RM (w.heap.size + 1) 3 (((w.alloc (.cells #[.int .i64 m.size, .slice ad m.doors.length cd, .slice ak m.keys.length ck] 29)).alloc (.cells #[.int .i64 x] 3)).alloc (.cells #[.int .i64 x] 3)) (.slice (some ⟨w.heap.size + 1, 0, none⟩) 1 1) (.slice (some ⟨w.heap.size + 1 + 1, 0, none⟩) 1 1) (2 ^ x) [(x : Int)]) := by
    refine ⟨w.heap.size + 1, 0, 1, w.heap.size + 1 + 1, 1, by rw [HMT.out]; rfl, rfl, ?_, by rw [HMT.out]; simp, by unfold maxLen; omega, (by first | omega | (simp; done) | (simp; omega) | (dsimp only; omega)), ?_, by omega, by omega⟩
    · rw [HMT.out]
      intro k hk
      have : k = 0 := by simpa using hk
      subst this
      exact ⟨w.heap.size + 1, 0, rfl, (by first | omega | (simp; done) | (simp; omega) | (dsimp only; omega)), by simp [go_sem]⟩
    · have := World.ownsRow_lit (base := w.heap.size + 1) (e := 3) (size := 1) ((w.alloc (.cells #[.int .i64 m.size, .slice ad m.doors.length cd, .slice ak m.keys.length ck] 29)).alloc (.cells #[.int .i64 x] 3)) #[.int .i64 x] 1 ((by first | omega | (simp; done) | (simp; omega) | (dsimp only; omega))) (by unfold maxLen; omega) rfl
      simpa [ints] using this
  go_enter Try.func126, Try.ntmps126
  go_wp2
  go_loopw [7, 8, 9] (fun u l n wr => ∃ (n' O : Nat) (T : List Int), n = .int .i64 (n' : Nat) ∧ n' ≤ T.length ∧ RM (w.heap.size + 1) 3 wr u l O T ∧ Hid (Sr m s x O (T.drop n')) ∧ Hid (T.length = popN O) ∧ Below (w.heap.size + 1) (w.alloc (.cells #[.int .i64 m.size, .slice ad m.doors.length cd, .slice ak m.keys.length ck] 29)) wr) (fun _ _ n _ => 12 - (intOf n).toNat)
  case atStart => exact ⟨0, 2 ^ x, [(x : Int)], rfl, Nat.zero_le _, HR0.out, HS0, by show _ = _; rw [HP1.out]; rfl, ((Below.refl _ _).alloc (by simp) _).alloc ((by first | omega | (simp; done) | (simp; omega) | (dsimp only; omega))) _⟩
  case round =>
    obtain ⟨wo, rfl⟩ : ∃ wo : World, wo = wr := ⟨_, rfl⟩
    obtain ⟨n, O, T, rfl, hnT, hrm, HS, HT, hb⟩ := hrel
    have HBo := Lib.hid hb
    have HB := Lib.hid (below_box hb (by omega))
    obtain ⟨q0, q1, q2, z1⟩ := box3 hb (by omega)
    clear hb HR0 HS0
    have hT12 : T.length ≤ 12 := by have := popN_le O; have := HT.out; omega
    by_cases hlt : n < T.length
    · have hdrop : T.drop n = T[n]! :: T.drop (n + 1) := by rw [List.drop_eq_getElem_cons hlt, getElem!_pos T n hlt]
      have HS1 : Hid (Sr m s x O (T[n]! :: T.drop (n + 1))) := by show Sr _ _ _ _ _; rw [← hdrop]; exact HS.out
      obtain ⟨tn, htn, htb⟩ := HS1.out.sub T[n]! (by simp)
      have htm := HS1.out.inm tn htb
      have HTN := Lib.hid htn
      rw [htn] at HS1
      have HRM := Lib.hid hrm
      obtain ⟨bo0, oo0, co0, g0, cg0, rfl, rfl, -⟩ := hrm
      have hnn : (n : Int) < (T.length : Int) := by omega
      clear hdrop htn htb
      go_wp2
      go_loopw [7, 8, 10] (fun u l i wr => ∃ (k O' : Nat) (N : List Int), i = .int .i64 (k : Nat) ∧ k ≤ m.doors.length ∧ RM (w.heap.size + 1) 3 wr u l O' (T ++ N) ∧ Hid (Dr m s O tn k O' N) ∧ Below (w.heap.size + 1) (w.alloc (.cells #[.int .i64 m.size, .slice ad m.doors.length cd, .slice ak m.keys.length ck] 29)) wr) (fun _ _ i _ => m.doors.length - (intOf i).toNat)
      case atStart => exact ⟨0, O, [], rfl, Nat.zero_le _, by rw [List.append_nil]; exact HRM.out, Dr.start, HBo.out⟩
      case round =>
        obtain ⟨wi, rfl⟩ : ∃ wi : World, wi = wr := ⟨_, rfl⟩
        obtain ⟨k, O', N, rfl, hk, hrm, HD, hb⟩ := hrel
        have HBi := Lib.hid hb
        have HBw := Lib.hid (below_box hb (by omega))
        clear q0 q1 q2
        obtain ⟨q0, q1, q2, z2⟩ := box3 hb (by omega)
        clear hb
        have HRI := Lib.hid hrm
        obtain ⟨bo, oo, co, g, cg, rfl, rfl, hio, hco, hcm, hbo, hown, hne, hba⟩ := hrm
        simp only [List.length_append] at hown
        have HIO := Lib.hid hio
        have HOW := Lib.hid hown
        clear hio hown
        have hTN : T.length + N.length ≤ 12 := by have := HD.out.len; have := popN_le O'; have := HT.out; omega
        by_cases hkl : k < m.doors.length
        · obtain ⟨b, off, x0, y0, z0, rfl, HXd, hbs, e0, e1, e2⟩ := (hd.later HBw.out).at k hkl
          obtain ⟨f1, f2, f3, f4, f5⟩ := door_facts OK.out hkl HXd.out
          obtain ⟨an, rfl⟩ := Int.eq_ofNat_of_zero_le f1
          obtain ⟨bn, rfl⟩ := Int.eq_ofNat_of_zero_le (show 0 ≤ y0 by omega)
          obtain ⟨zn, rfl⟩ := Int.eq_ofNat_of_zero_le f4
          have hkd : (k : Int) < (m.doors.length : Int) := by omega
          have hnTN : (n : Int) < ((T ++ N).length : Int) := by rw [List.length_append]; omega
          have e4 : wi.cell? ⟨g, n, none⟩ = some (.int .i64 tn) := by
            rw [HOW.out.cellAt n (by omega), ints, List.getElem?_map, List.getElem?_append_left hlt, List.getElem?_eq_getElem hlt]
            have := HTN.out
            rw [getElem!_pos T n hlt] at this
            rw [this]; rfl
          have hgw : g < wi.heap.size := World.block_lt_of_cell? _ _ e4
          have hg1 : g < wi.heap.size + 1 := by omega
          have hbs1 : b < wi.heap.size + 1 := by omega
          have HDA : Hid (doorAt m s tn k = (subB zn s && (((an : Int) == (tn : Int)) || ((bn : Int) == (tn : Int))))) := by show _ = _; unfold doorAt; rw [HXd.out]; rfl
          have hzw : w.heap.size + 1 ≤ wi.heap.size := by omega
          cases p0 : subB zn s
          · have HSK : Hid (Dr m s O tn (k + 1) O' N) := HD.out.skip hkl (by rw [HDA.out, p0]; rfl)
            go_wp2
            refine wp_region_later (wi.heap.size + 1) (by kernel_rfl) (by kernel_rfl) ?_
            repeat (first | go_big_quiet_skip | (go_big_quiet_want; go_big_quiet_op; (first | go_big_quiet_on | (apply Exists.intro; refine ⟨fun W => ?_, ?_⟩; (first | (go_at_call 133; exact Calls.later_same (l2Has_c _ _ (by omega) (by omega) _))); go_big_quiet_on))))
            refine wpQuiet_nil ?_; rintro _ ⟨⟨w9, hb9⟩, rfl⟩; obtain ⟨hc9, hf9, hz9⟩ := bcell3 hb9
            go_wp2
            go_roundw
            case rel => exact ⟨k + 1, O', N, by go_num, by omega, HRI.out.later (((Below.refl _ _).alloc (Nat.le_refl _) _).trans (hb9.mono (by omega))), HSK, HBi.out.trans (((Below.refl _ _).alloc hzw _).trans (hb9.mono (by omega)))⟩
            case measure => simp [intOf]; omega
          · cases p1 : ((an : Int) != (tn : Int)) <;> cases p2 : ((bn : Int) != (tn : Int))
            case true.true =>
              have HSK : Hid (Dr m s O tn (k + 1) O' N) := HD.out.skip hkl (by rw [HDA.out, p0]; simp only [bne_iff_ne] at p1 p2; simp; omega)
              go_wp2
              refine wp_region_later (wi.heap.size + 1) (by kernel_rfl) (by kernel_rfl) ?_
              repeat (first | go_big_quiet_skip | (go_big_quiet_want; go_big_quiet_op; (first | go_big_quiet_on | (apply Exists.intro; refine ⟨fun W => ?_, ?_⟩; (first | (go_at_call 133; exact Calls.later_same (l2Has_c _ _ (by omega) (by omega) _))); go_big_quiet_on))))
              refine wpQuiet_nil ?_; rintro _ ⟨⟨w9, hb9⟩, rfl⟩; obtain ⟨hc9, hf9, hz9⟩ := bcell3 hb9
              go_wp2
              go_roundw
              case rel => exact ⟨k + 1, O', N, by go_num, by omega, HRI.out.later (((Below.refl _ _).alloc (Nat.le_refl _) _).trans (hb9.mono (by omega))), HSK, HBi.out.trans (((Below.refl _ _).alloc hzw _).trans (hb9.mono (by omega)))⟩
              case measure => simp [intOf]; omega
            case false.false => simp only [bne_eq_false_iff_eq] at p1 p2; omega
            case false.true =>
              have HDA' : Hid (doorAt m s tn k = true) := by show _ = _; rw [HDA.out, p0]; simp only [bne_eq_false_iff_eq] at p1; simp [p1]
              obtain ⟨yn, hyv, hyr⟩ : ∃ yn : Nat, (an : Int) + (bn : Int) - (tn : Int) = (yn : Int) ∧ (yn : Int) < m.size := ⟨bn, by simp only [bne_eq_false_iff_eq] at p1; omega, by omega⟩
              have hy12 : yn < 12 := by omega
              have HYV : Hid (m.doors[k]!.1 + m.doors[k]!.2.1 - (tn : Int) = (yn : Int)) := by show _ = _; rw [HXd.out]; exact hyv
              have hO' : O' < 4096 := by
                rw [HD.out.eq]
                exact Nat.or_lt_two_pow (n := 12) (HS1.out.inm.lt OK.out) (stK_lt OK.out _ _ _ hk)
              have HHB := Lib.hid (hasI_bit (y := yn) hO')
              have HPM := Lib.hid (put_mem0 (O := O') hy12)
              have h40 := mem_len40' O'
              have h40' := mem_len40' (O' ||| 2 ^ yn)
              cases pb : O'.testBit yn
              · have HNW : Hid (Dr m s O tn (k + 1) (O' ||| 2 ^ yn) (N ++ [(yn : Int)])) := HD.out.new OK.out hkl HDA'.out hy12 HYV.out pb
                go_wp2
                refine wp_region_later (wi.heap.size + 1) (by kernel_rfl) (by kernel_rfl) ?_
                repeat (first | go_big_quiet_skip | (go_big_quiet_want; go_big_quiet_op; (first | go_big_quiet_on | (apply Exists.intro; refine ⟨fun W => ?_, ?_⟩; (first | (go_at_call 133; exact Calls.later_same (l2Has_c _ _ (by omega) (by omega) _))); go_big_quiet_on))))
                refine wpQuiet_nil ?_
                rintro w9 ⟨⟨w9', hb9⟩, h9⟩
                change w9 = w9' at h9
                subst h9
                obtain ⟨hc9, hf9, hzz9⟩ := bcell3 hb9
                have H9 : Hid (Below wi.heap.size wi w9) := ((Below.refl _ _).alloc (Nat.le_refl _) _).trans (hb9.mono (by omega))
                have H9b : Hid (Below (w.heap.size + 1) (w.alloc (.cells #[.int .i64 m.size, .slice (some ⟨b, off, none⟩) m.doors.length cd, .slice ak m.keys.length ck] 29)) w9) := HBi.out.trans (((Below.refl _ _).alloc hzw _).trans (hb9.mono (by omega)))
                clear hb9
                go_wp2
                go_quiet (fail)
                go_wp2_with fail
                refine (l1Has_c _ _ _ (mem O') _ _ rfl (HIO.out.later (by first | exact H9.out | exact H9.out.drew | exact below_drewN H9.out _)) (by omega)).mono ?_
                rintro e w4 ⟨rfl, rfl⟩
                rw [HHB.out, pb]
                go_wp2_with fail
                refine (l1PutB_c bo oo co (mem O') yn _ (HIO.out.later (by first | exact H9.out | exact H9.out.drew | exact below_drewN H9.out _)) (by omega) hco hcm).mono ?_
                rintro e w4 ⟨b4, o4, c4, rfl, hi4, hl4, hm4, hb4, hfr4⟩
                rw [HPM.out] at hi4 hl4 ⊢
                have hb4' : Below w9.heap.size w9 w4 := (below_drewN (Below.refl _ _) _).trans hb4
                have hz9 := H9.out.size
                have hz4 : wi.heap.size ≤ w4.heap.size := Nat.le_trans hz9 hb4'.size
                have HB4 : Hid (Below wi.heap.size wi w4) := H9.out.trans (Below.mono hb4' hz9)
                have HB4b : Hid (Below (w.heap.size + 1) (w.alloc (.cells #[.int .i64 m.size, .slice (some ⟨b, off, none⟩) m.doors.length cd, .slice ak m.keys.length ck] 29)) w4) := H9b.out.trans (Below.mono hb4' (by omega))
                have HO4 := Lib.hid (own_below HOW.out HB4.out)
                have hfr : g ≠ b4 := by
                  rcases hfr4 with h | h
                  · rw [h]; exact hne
                  · have : w9.heap.size ≤ b4 := h
                    omega
                have hin : 0 < (mem (O' ||| 2 ^ yn)).length := by
                  have : (yn : Int) ∈ mem (O' ||| 2 ^ yn) := (in_mem _ _).2 ⟨yn, by omega, by rw [Nat.testBit_or, Nat.testBit_two_pow]; simp, rfl⟩
                  exact List.length_pos_of_mem this
                have hb4s : b4 < w4.heap.size := by
                  obtain ⟨b', o', he', hbs', _⟩ := hi4 0 hin
                  cases he'; exact hbs'
                have hb4l : w.heap.size + 1 ≤ b4 := by
                  rcases hfr4 with h | h
                  · rw [h]; exact hba
                  · have : w9.heap.size ≤ b4 := h
                    omega
                have HI4 := Lib.hid hi4
                clear hi4 hb4 hb4' hfr4
                go_wp2_with (at_builtin; refine wpList_append_lies _ rfl _ _ 23 rfl (w.heap.size + 1) 3 i0 (.int .i64 0) 1 8 Try.underlying23 ji jz0 jz1 jz2 rfl (by decide) (.slice (some ⟨g, 0, none⟩) (T.length + N.length) cg) _ _ rfl (HO4.out.alloc _) ⟨w4.heap.size, 0, none⟩ 1 1 [.int .i64 yn] rfl rfl ?_ ?_ (by omega) ?_ ?_ ?_ (w4.heap.size + 1) ?_ ?_; (exact cell_one_new _ _ _); (simp [Value.oneCell']); (unfold maxLen; omega); omega; (simp; omega); (simp); intro g5 c5 w5 hown5 hgrow5 hat5 hlt5)
                have hg5 : g5 ≠ b4 := by
                  rcases hat5 with h | h
                  · have : g = g5 := by simpa [Value.ownBlock] using h
                    rw [← this]; exact hfr
                  · omega
                have HR5 : Hid (RM (w.heap.size + 1) 3 w5 (.slice (some ⟨b4, o4, none⟩) (mem (O' ||| 2 ^ yn)).length c4) (.slice (some ⟨g5, 0, none⟩) (T.length + N.length + 1) c5) (O' ||| 2 ^ yn) (T ++ (N ++ [(yn : Int)]))) := by
                  have he : (T ++ (N ++ [(yn : Int)])).length = T.length + N.length + 1 := by simp; omega
                  refine ⟨b4, o4, c4, g5, c5, rfl, by rw [he], ic_grown (HI4.out.later ((Below.refl _ _).alloc (Nat.le_refl _) _)) hgrow5 (fun g' hg' => ?_), hl4, hm4, ?_, ?_, hg5, hb4l⟩
                  · have : g = g' := by simpa [Value.ownBlock] using hg'
                    rw [← this]; exact hfr
                  · have := hgrow5.size; simp at this; omega
                  · rw [he, ← List.append_assoc, ints_snoc]; exact hown5
                go_roundw
                case rel => exact ⟨k + 1, O' ||| 2 ^ yn, N ++ [(yn : Int)], by go_num, by omega, by first | exact HR5.out | (have hr := HR5.out; simp only [List.length_append] at hr ⊢; exact hr), HNW, (HB4b.out.alloc (by omega) _).grown hgrow5 (by simp; omega) (fun g' hg => own_block_lo HO4.out hg)⟩
                case measure => simp [intOf]; omega
              · have HOD : Hid (Dr m s O tn (k + 1) O' N) := HD.out.old OK.out hkl HDA'.out HYV.out pb
                go_wp2
                refine wp_region_later (wi.heap.size + 1) (by kernel_rfl) (by kernel_rfl) ?_
                repeat (first | go_big_quiet_skip | (go_big_quiet_want; go_big_quiet_op; (first | go_big_quiet_on | (apply Exists.intro; refine ⟨fun W => ?_, ?_⟩; (first | (go_at_call 133; exact Calls.later_same (l2Has_c _ _ (by omega) (by omega) _))); go_big_quiet_on))))
                refine wpQuiet_nil ?_
                rintro w9 ⟨⟨w9', hb9⟩, h9⟩
                change w9 = w9' at h9
                subst h9
                obtain ⟨hc9, hf9, hzz9⟩ := bcell3 hb9
                have H9 : Hid (Below wi.heap.size wi w9) := ((Below.refl _ _).alloc (Nat.le_refl _) _).trans (hb9.mono (by omega))
                have H9b : Hid (Below (w.heap.size + 1) (w.alloc (.cells #[.int .i64 m.size, .slice (some ⟨b, off, none⟩) m.doors.length cd, .slice ak m.keys.length ck] 29)) w9) := HBi.out.trans (((Below.refl _ _).alloc hzw _).trans (hb9.mono (by omega)))
                clear hb9
                go_wp2
                go_quiet (fail)
                go_wp2_with fail
                refine (l1Has_c _ _ _ (mem O') _ _ rfl (HIO.out.later (by first | exact H9.out | exact H9.out.drew | exact below_drewN H9.out _)) (by omega)).mono ?_
                rintro e w4 ⟨rfl, rfl⟩
                rw [HHB.out, pb]
                go_wp2_with fail
                go_roundw
                case rel => exact ⟨k + 1, O', N, by go_num, by omega, by have hr := HRI.out; simp only [List.length_append] at hr ⊢; exact hr.later (by first | exact H9.out | exact H9.out.drew | exact below_drewN H9.out _), HOD, by first | exact H9b.out | exact H9b.out.drew | exact below_drewN H9b.out _⟩
                case measure => simp [intOf]; omega
            case true.false =>
              have HDA' : Hid (doorAt m s tn k = true) := by show _ = _; rw [HDA.out, p0]; simp only [bne_eq_false_iff_eq] at p2; simp [p2]
              obtain ⟨yn, hyv, hyr⟩ : ∃ yn : Nat, (an : Int) + (bn : Int) - (tn : Int) = (yn : Int) ∧ (yn : Int) < m.size := ⟨an, by simp only [bne_eq_false_iff_eq] at p2; omega, by omega⟩
              have hy12 : yn < 12 := by omega
              have HYV : Hid (m.doors[k]!.1 + m.doors[k]!.2.1 - (tn : Int) = (yn : Int)) := by show _ = _; rw [HXd.out]; exact hyv
              have hO' : O' < 4096 := by
                rw [HD.out.eq]
                exact Nat.or_lt_two_pow (n := 12) (HS1.out.inm.lt OK.out) (stK_lt OK.out _ _ _ hk)
              have HHB := Lib.hid (hasI_bit (y := yn) hO')
              have HPM := Lib.hid (put_mem0 (O := O') hy12)
              have h40 := mem_len40' O'
              have h40' := mem_len40' (O' ||| 2 ^ yn)
              cases pb : O'.testBit yn
              · have HNW : Hid (Dr m s O tn (k + 1) (O' ||| 2 ^ yn) (N ++ [(yn : Int)])) := HD.out.new OK.out hkl HDA'.out hy12 HYV.out pb
                go_wp2
                refine wp_region_later (wi.heap.size + 1) (by kernel_rfl) (by kernel_rfl) ?_
                repeat (first | go_big_quiet_skip | (go_big_quiet_want; go_big_quiet_op; (first | go_big_quiet_on | (apply Exists.intro; refine ⟨fun W => ?_, ?_⟩; (first | (go_at_call 133; exact Calls.later_same (l2Has_c _ _ (by omega) (by omega) _))); go_big_quiet_on))))
                refine wpQuiet_nil ?_
                rintro w9 ⟨⟨w9', hb9⟩, h9⟩
                change w9 = w9' at h9
                subst h9
                obtain ⟨hc9, hf9, hzz9⟩ := bcell3 hb9
                have H9 : Hid (Below wi.heap.size wi w9) := ((Below.refl _ _).alloc (Nat.le_refl _) _).trans (hb9.mono (by omega))
                have H9b : Hid (Below (w.heap.size + 1) (w.alloc (.cells #[.int .i64 m.size, .slice (some ⟨b, off, none⟩) m.doors.length cd, .slice ak m.keys.length ck] 29)) w9) := HBi.out.trans (((Below.refl _ _).alloc hzw _).trans (hb9.mono (by omega)))
                clear hb9
                go_wp2
                go_quiet (fail)
                go_wp2_with fail
                refine (l1Has_c _ _ _ (mem O') _ _ rfl (HIO.out.later (by first | exact H9.out | exact H9.out.drew | exact below_drewN H9.out _)) (by omega)).mono ?_
                rintro e w4 ⟨rfl, rfl⟩
                rw [HHB.out, pb]
                go_wp2_with fail
                refine (l1PutB_c bo oo co (mem O') yn _ (HIO.out.later (by first | exact H9.out | exact H9.out.drew | exact below_drewN H9.out _)) (by omega) hco hcm).mono ?_
                rintro e w4 ⟨b4, o4, c4, rfl, hi4, hl4, hm4, hb4, hfr4⟩
                rw [HPM.out] at hi4 hl4 ⊢
                have hb4' : Below w9.heap.size w9 w4 := (below_drewN (Below.refl _ _) _).trans hb4
                have hz9 := H9.out.size
                have hz4 : wi.heap.size ≤ w4.heap.size := Nat.le_trans hz9 hb4'.size
                have HB4 : Hid (Below wi.heap.size wi w4) := H9.out.trans (Below.mono hb4' hz9)
                have HB4b : Hid (Below (w.heap.size + 1) (w.alloc (.cells #[.int .i64 m.size, .slice (some ⟨b, off, none⟩) m.doors.length cd, .slice ak m.keys.length ck] 29)) w4) := H9b.out.trans (Below.mono hb4' (by omega))
                have HO4 := Lib.hid (own_below HOW.out HB4.out)
                have hfr : g ≠ b4 := by
                  rcases hfr4 with h | h
                  · rw [h]; exact hne
                  · have : w9.heap.size ≤ b4 := h
                    omega
                have hin : 0 < (mem (O' ||| 2 ^ yn)).length := by
                  have : (yn : Int) ∈ mem (O' ||| 2 ^ yn) := (in_mem _ _).2 ⟨yn, by omega, by rw [Nat.testBit_or, Nat.testBit_two_pow]; simp, rfl⟩
                  exact List.length_pos_of_mem this
                have hb4s : b4 < w4.heap.size := by
                  obtain ⟨b', o', he', hbs', _⟩ := hi4 0 hin
                  cases he'; exact hbs'
                have hb4l : w.heap.size + 1 ≤ b4 := by
                  rcases hfr4 with h | h
                  · rw [h]; exact hba
                  · have : w9.heap.size ≤ b4 := h
                    omega
                have HI4 := Lib.hid hi4
                clear hi4 hb4 hb4' hfr4
                go_wp2_with (at_builtin; refine wpList_append_lies _ rfl _ _ 23 rfl (w.heap.size + 1) 3 i0 (.int .i64 0) 1 8 Try.underlying23 ji jz0 jz1 jz2 rfl (by decide) (.slice (some ⟨g, 0, none⟩) (T.length + N.length) cg) _ _ rfl (HO4.out.alloc _) ⟨w4.heap.size, 0, none⟩ 1 1 [.int .i64 yn] rfl rfl ?_ ?_ (by omega) ?_ ?_ ?_ (w4.heap.size + 1) ?_ ?_; (exact cell_one_new _ _ _); (simp [Value.oneCell']); (unfold maxLen; omega); omega; (simp; omega); (simp); intro g5 c5 w5 hown5 hgrow5 hat5 hlt5)
                have hg5 : g5 ≠ b4 := by
                  rcases hat5 with h | h
                  · have : g = g5 := by simpa [Value.ownBlock] using h
                    rw [← this]; exact hfr
                  · omega
                have HR5 : Hid (RM (w.heap.size + 1) 3 w5 (.slice (some ⟨b4, o4, none⟩) (mem (O' ||| 2 ^ yn)).length c4) (.slice (some ⟨g5, 0, none⟩) (T.length + N.length + 1) c5) (O' ||| 2 ^ yn) (T ++ (N ++ [(yn : Int)]))) := by
                  have he : (T ++ (N ++ [(yn : Int)])).length = T.length + N.length + 1 := by simp; omega
                  refine ⟨b4, o4, c4, g5, c5, rfl, by rw [he], ic_grown (HI4.out.later ((Below.refl _ _).alloc (Nat.le_refl _) _)) hgrow5 (fun g' hg' => ?_), hl4, hm4, ?_, ?_, hg5, hb4l⟩
                  · have : g = g' := by simpa [Value.ownBlock] using hg'
                    rw [← this]; exact hfr
                  · have := hgrow5.size; simp at this; omega
                  · rw [he, ← List.append_assoc, ints_snoc]; exact hown5
                go_roundw
                case rel => exact ⟨k + 1, O' ||| 2 ^ yn, N ++ [(yn : Int)], by go_num, by omega, by first | exact HR5.out | (have hr := HR5.out; simp only [List.length_append] at hr ⊢; exact hr), HNW, (HB4b.out.alloc (by omega) _).grown hgrow5 (by simp; omega) (fun g' hg => own_block_lo HO4.out hg)⟩
                case measure => simp [intOf]; omega
              · have HOD : Hid (Dr m s O tn (k + 1) O' N) := HD.out.old OK.out hkl HDA'.out HYV.out pb
                go_wp2
                refine wp_region_later (wi.heap.size + 1) (by kernel_rfl) (by kernel_rfl) ?_
                repeat (first | go_big_quiet_skip | (go_big_quiet_want; go_big_quiet_op; (first | go_big_quiet_on | (apply Exists.intro; refine ⟨fun W => ?_, ?_⟩; (first | (go_at_call 133; exact Calls.later_same (l2Has_c _ _ (by omega) (by omega) _))); go_big_quiet_on))))
                refine wpQuiet_nil ?_
                rintro w9 ⟨⟨w9', hb9⟩, h9⟩
                change w9 = w9' at h9
                subst h9
                obtain ⟨hc9, hf9, hzz9⟩ := bcell3 hb9
                have H9 : Hid (Below wi.heap.size wi w9) := ((Below.refl _ _).alloc (Nat.le_refl _) _).trans (hb9.mono (by omega))
                have H9b : Hid (Below (w.heap.size + 1) (w.alloc (.cells #[.int .i64 m.size, .slice (some ⟨b, off, none⟩) m.doors.length cd, .slice ak m.keys.length ck] 29)) w9) := HBi.out.trans (((Below.refl _ _).alloc hzw _).trans (hb9.mono (by omega)))
                clear hb9
                go_wp2
                go_quiet (fail)
                go_wp2_with fail
                refine (l1Has_c _ _ _ (mem O') _ _ rfl (HIO.out.later (by first | exact H9.out | exact H9.out.drew | exact below_drewN H9.out _)) (by omega)).mono ?_
                rintro e w4 ⟨rfl, rfl⟩
                rw [HHB.out, pb]
                go_wp2_with fail
                go_roundw
                case rel => exact ⟨k + 1, O', N, by go_num, by omega, by have hr := HRI.out; simp only [List.length_append] at hr ⊢; exact hr.later (by first | exact H9.out | exact H9.out.drew | exact below_drewN H9.out _), HOD, by first | exact H9b.out | exact H9b.out.drew | exact below_drewN H9b.out _⟩
                case measure => simp [intOf]; omega
        · obtain rfl : k = m.doors.length := by omega
          have HST : Hid (Sr m s x O' ((T ++ N).drop (n + 1))) := by
            show Sr _ _ _ _ _
            rw [List.drop_append_of_le_length (by omega)]
            exact HD.out.stop OK.out HS1.out
          have HTL : Hid ((T ++ N).length = popN O') := by show _ = _; rw [List.length_append]; have := HD.out.len; have := HT.out; omega
          go_wp2
          go_roundw
          case rel => exact ⟨n + 1, O', T ++ N, by go_num, by rw [List.length_append]; omega, by have hr := HRI.out; simp only [List.length_append] at hr ⊢; exact hr, HST, HTL, HBi.out⟩
          case measure => simp [intOf]; omega
    · obtain rfl : n = T.length := by omega
      have HST : Hid (O = reachN m x s) := by
        have := HS.out
        rw [List.drop_length] at this
        exact this.stop OK.out HX.out
      obtain ⟨bo, oo, co, g, cg, rfl, rfl, hio, -, -, hbo, -, -, hba⟩ := hrm
      have HIO := Lib.hid hio; clear hio
      go_wp2
      go_ret
      exact ⟨bo, oo, co, by rw [HST.out] <;> rfl, by rw [← HST.out]; exact HIO.out, by omega, by simpa using hbo, HB.out⟩
theorem l2Reach_c (v : Value) (m : Mz) (x s : Nat) (w : World) (hm : MzAt w v m) (ok : MzOk m) (hx : (x : Int) < m.size) (hs : s < 64) :
    Calls Try.prog 126 #[v, .int .i64 x, .int .i64 s] w fun e w' => ∃ a c, e = .returned (.slice a (mem (reachN m x s)).length c) ∧ IC w' a (mem (reachN m x s)) ∧ Below w.heap.size w w' := by
  refine (l2ReachB_c v m x s w hm ok hx hs).mono ?_
  rintro e w' ⟨b, o, c, rfl, h1, -, -, h2⟩
  exact ⟨_, _, rfl, h1, h2⟩
end Go.Proofs.Ytlojcgjkjinlcaa
