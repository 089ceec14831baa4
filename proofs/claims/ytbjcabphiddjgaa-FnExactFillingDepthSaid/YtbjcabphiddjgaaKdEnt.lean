/- Contracts of nodeRounds, l3Rounds, l3Entered. -/
import Derived.Test.YtbjcabphiddjgaaKdLay0
import Derived.Test.YtbjcabphiddjgaaKdClose
import Derived.Deep.OwnRows
set_option linter.unusedVariables false
set_option linter.unusedSimpArgs false
namespace Go.KD
open Go.RowKit
theorem get_c2p' (m : Mz) (s : Nat) : ∀ n i, i < n → (c2p (rsL m s n))[i * 2]? = some (.int .i64 (gK m s i : Int)) ∧ (c2p (rsL m s n))[i * 2 + 1]? = some (.int .i64 (reachN m 0 (gK m s i) : Int))
  | 0, i, h => absurd h (Nat.not_lt_zero i)
  | n + 1, i, h => by
    by_cases hi : i = n
    · subst hi; exact get_c2p m s i
    · have ih := get_c2p' m s n i (by omega)
      have hl : (c2p (rsL m s n)).length = n * 2 := by rw [length_c2p, rsL_len]
      rw [rsL_snoc, c2p_snoc, List.getElem?_append_left (by omega), List.getElem?_append_left (by omega)]
      exact ih
def setsL (m : Mz) (s k : Nat) : List Int := (List.range k).map fun i => ((gK m s i : Nat) : Int)
theorem setsL_snoc (m : Mz) (s k : Nat) : setsL m s (k + 1) = setsL m s k ++ [((gK m s k : Nat) : Int)] := by simp [setsL, List.range_succ]
@[simp] theorem setsL_len (m : Mz) (s k : Nat) : (setsL m s k).length = k := by simp [setsL]
theorem setsL_at {m : Mz} {s n k : Nat} (hk : k < n) : (setsL m s n)[k]! = ((gK m s k : Nat) : Int) := by
  rw [getElem!_pos _ k (by simpa using hk)]; simp [setsL]
theorem entS_zero {i : Nat} {out : List Int} {x : Nat} (h : out[x]! = 0) : entS i out (x : Int) = out.set x ((i : Int) + 1) := by
  unfold entS; rw [Int.toNat_natCast, if_pos h]
theorem entS_skip {i : Nat} {out : List Int} {x : Nat} (h : out[x]! ≠ 0) : entS i out (x : Int) = out := by
  unfold entS; rw [Int.toNat_natCast, if_neg h]
end Go.KD
namespace Go.Proofs.Ytbjcabphiddjgaa
open Go.RowKit Go.KD
attribute [local go_sem] later_cell later_frozen
set_option maxRecDepth 100000 in
set_option maxHeartbeats 8000000 in
theorem nodeRounds_c (v : Value) (m : Mz) (s : Nat) (w : World) (hm : MzAt w v m) (ok : MzOk m) (hs : s < 64) : Calls Try.prog 119 #[v, .int .i64 s] w fun e w' =>
    ∃ u, e = .returned u ∧ w'.ownsRow w.heap.size 3 1 u m.keys.length (ints (entF m s)) ∧ Below w.heap.size w w' := by
  have hM := hm
  obtain ⟨⟨ad, cd, ak, ck, rfl, hd, hk'⟩, nd, nk⟩ := hM
  obtain ⟨i0, ji, jz0, jz1, jz2⟩ := info_parts infoI
  have hnk : (m.keys.length : Int) = m.size := ok.nk
  have hkl12 : m.keys.length ≤ 12 := by have := ok.s2; omega
  obtain ⟨sn, hsn⟩ : ∃ sn, sn = m.keys.length := ⟨_, rfl⟩
  have HSZ : Hid (m.size = (sn : Int)) := by show _ = _; omega
  have HRI : Hid (∀ t, InM m (reachN m 0 t)) := fun t => reachN_in ok t (by have := ok.s1; show ((0 : Nat) : Int) < _; omega)
  have HEF : Hid (∀ k, k < 64 → gainN m (gK m s k) = gK m s k → (∀ j, j < k → gainN m (gK m s j) ≠ gK m s j) → entF m s = entK m s (k + 1)) := fun k h1 h2 h3 => entF_eq h1 h2 h3
  have HEL : Hid (∀ i, (entK m s i).length = sn) := fun i => by rw [hsn]; exact entK_len m s i
  have HE0 : Hid (entK m s 0 = List.replicate sn 0) := by show _ = _; rw [hsn]; rfl
  have HGL := Lib.hid (gK_lt ok hs)
  have OK := Lib.hid ok; clear ok
  have HSN := Lib.hid hsn
  have hsn12 : sn ≤ 12 := by omega
  clear hnk hsn
  have J2 := Lib.hid jz2
  obtain ⟨sz, gs, ps⟩ := m
  have hsz := HSZ.out
  dsimp only at hsz
  subst hsz
  go_enter Try.func119, Try.ntmps119
  go_wp2_with (refine wpList_make_full _ rfl _ _ 23 rfl (w.heap.size + 1) 3 i0 (.int .i64 0) 1 Try.underlying23 ji jz0 jz1 .i64 .i64 _ _ sn rfl rfl rfl rfl ?_ ?_ (by simp) ?_; (rw [J2.out]; omega); (unfold maxLen; omega); intro w1 hown hg; rw [madeI] at hown; simp only [World.size_alloc] at hown ⊢; have HO1 := Lib.hid hown; have HB1 : Hid (Below (w.heap.size + 1) (w.alloc (.cells #[.int .i64 sn, .slice ad gs.length cd, .slice ak ps.length ck] 29)) w1) := (Below.refl _ _).grown hg (by simp) (fun k h => by cases h); obtain ⟨q0, q1, q2, z1⟩ := box3 HB1.out (by omega); clear hown hg)
  refine (rounds_c _ ⟨(sn : Int), gs, ps⟩ s _ (hm.later (below_box HB1.out (by omega))) OK.out hs).mono ?_
  rintro e w2 ⟨u, rfl, k, ho, hk, hfx, hno, hb2⟩
  have HEE := Lib.hid (HEF.out k (by have := HGL.out k; omega) hfx hno)
  have hk64 : k < 64 := by have := HGL.out k; omega
  obtain ⟨gr, cr, rfl, -, -⟩ := ho.form (by omega)
  have hgr := own_block_lo ho (g := gr) rfl
  have ho1t := (Own.of HO1.out).top _ rfl
  have HRC : Hid (∀ i, i < k + 1 → w2.cell? ⟨gr, i * 2, none⟩ = some (.int .i64 (gK ⟨(sn : Int), gs, ps⟩ s i : Int)) ∧ w2.cell? ⟨gr, i * 2 + 1, none⟩ = some (.int .i64 (reachN ⟨(sn : Int), gs, ps⟩ 0 (gK ⟨(sn : Int), gs, ps⟩ s i) : Int))) := fun i hi => ⟨by rw [ho.cellAt (i * 2) (by omega)]; exact (get_c2p' _ s _ i hi).1, by rw [ho.cellAt (i * 2 + 1) (by omega)]; exact (get_c2p' _ s _ i hi).2⟩
  have hgz : gr < w2.heap.size := World.block_lt_of_cell? _ _ (HRC.out 0 (by omega)).1
  have HB2 : Hid (Below (w.heap.size + 1) (w.alloc (.cells #[.int .i64 sn, .slice ad gs.length cd, .slice ak ps.length ck] 29)) w2) := HB1.out.trans (hb2.mono (by omega))
  have HO2 : Hid (w2.ownsRow (w.heap.size + 1) 3 1 (.slice (some ⟨w.heap.size + 1, 0, none⟩) sn sn) sn (ints (entK ⟨(sn : Int), gs, ps⟩ s 0))) := by rw [HE0.out]; exact own_below HO1.out hb2
  clear hb2 ho hno hfx q0 q1 q2
  go_wp2
  go_loopw [17] (fun i wr => ∃ j : Nat, j ≤ k + 1 ∧ i = .int .i64 j ∧ Chg (w.heap.size + 1) (w.heap.size + 2) w2 wr ∧ Below (w.heap.size + 1) (w.alloc (.cells #[.int .i64 sn, .slice ad gs.length cd, .slice ak ps.length ck] 29)) wr ∧ Hid (wr.ownsRow (w.heap.size + 1) 3 1 (.slice (some ⟨w.heap.size + 1, 0, none⟩) sn sn) sn (ints (entK ⟨(sn : Int), gs, ps⟩ s j)))) (fun i _ => (k + 1) - (intOf i).toNat)
  case atStart => exact ⟨0, Nat.zero_le _, rfl, Chg.of_below (Below.refl _ _), HB2.out, HO2.out⟩
  case round =>
    obtain ⟨wo, rfl⟩ : ∃ wo : World, wo = wr := ⟨_, rfl⟩
    obtain ⟨j, hj, rfl, hch, hb, HO⟩ := hrel
    have HBo := Lib.hid hb
    by_cases hlt : j < k + 1
    · have hjI : (j : Int) < (k : Int) + 1 := by omega
      obtain ⟨c0, c1⟩ := HRC.out j hlt
      have d0 := (hch.cell (p := ⟨gr, j * 2, none⟩) hgz (.inr (by show w.heap.size + 2 ≤ gr; omega))).trans c0
      have d1 := (hch.cell (p := ⟨gr, j * 2 + 1, none⟩) hgz (.inr (by show w.heap.size + 2 ≤ gr; omega))).trans c1
      have hX := (HRI.out (gK ⟨(sn : Int), gs, ps⟩ s j)).lt OK.out
      have HXI := Lib.hid (HRI.out (gK ⟨(sn : Int), gs, ps⟩ s j))
      have HEN : Hid (entK ⟨(sn : Int), gs, ps⟩ s (j + 1) = entJ j (entK ⟨(sn : Int), gs, ps⟩ s j) (mem (reachN ⟨(sn : Int), gs, ps⟩ 0 (gK ⟨(sn : Int), gs, ps⟩ s j))) (mem (reachN ⟨(sn : Int), gs, ps⟩ 0 (gK ⟨(sn : Int), gs, ps⟩ s j))).length) := rfl
      have HLJ := Lib.hid (HEL.out j)
      obtain ⟨aN, haN⟩ : ∃ aN, aN = gK ⟨(sn : Int), gs, ps⟩ s j := ⟨_, rfl⟩
      obtain ⟨X, hXe⟩ : ∃ X, X = reachN ⟨(sn : Int), gs, ps⟩ 0 aN := ⟨_, rfl⟩
      obtain ⟨E0, hE0⟩ : ∃ E0, E0 = entK ⟨(sn : Int), gs, ps⟩ s j := ⟨_, rfl⟩
      rw [← haN] at d0 d1 hX HXI HEN
      rw [← hXe] at d1 hX HXI HEN
      rw [← hE0] at HEN HLJ HO
      have h40 := mem_len40' X
      have hLm : Hid (∀ k x, k < (mem X).length → (mem X)[k]! = x → ∃ i : Nat, x = i ∧ X.testBit i = true) := fun k x => mem_at
      have hzo : w.heap.size + 1 < wo.heap.size := by have := hch.size; omega
      have HCH := Lib.hid hch
      clear haN hXe hE0 hch hb c0 c1
      go_wp2_with fail
      refine (members_c X (by omega) _).mono ?_
      rintro e w3 ⟨v3, rfl, ho3, hb3⟩
      have hz3 := hb3.size
      simp only [World.size_alloc] at hz3
      have HM := Lib.hid (Own.of ho3)
      obtain ⟨a3, c3, rfl, -, -⟩ := (Own.of ho3).ic
      have HB3 : Hid (Below (w.heap.size + 1) (w.alloc (.cells #[.int .i64 sn, .slice ad gs.length cd, .slice ak ps.length ck] 29)) w3) := HBo.out.trans (((Below.refl _ _).alloc (by omega) _).trans (hb3.mono (by simp; omega)))
      have HC3 : Hid (Chg (w.heap.size + 1) (w.heap.size + 2) w2 w3) := HCH.out.trans (Chg.of_below (((Below.refl _ _).alloc (Nat.le_refl _) _).trans (hb3.mono (by simp))))
      have HO3 : Hid (w3.ownsRow (w.heap.size + 1) 3 1 (.slice (some ⟨w.heap.size + 1, 0, none⟩) sn sn) sn (ints (entJ j E0 (mem X) 0))) := by
        have := (Own.of HO.out).later (((Below.refl _ _).alloc (Nat.le_refl _) _).trans (hb3.mono (by simp))) (Nat.le_refl _)
        exact this.row
      clear ho3 hb3 d0 d1
      go_wp2
      go_loopw [26] (fun c wr => ∃ i : Nat, i ≤ (mem X).length ∧ c = .int .i64 i ∧ Chg (w.heap.size + 1) (w.heap.size + 2) w3 wr ∧ Below (w.heap.size + 1) (w.alloc (.cells #[.int .i64 sn, .slice ad gs.length cd, .slice ak ps.length ck] 29)) wr ∧ Hid (wr.ownsRow (w.heap.size + 1) 3 1 (.slice (some ⟨w.heap.size + 1, 0, none⟩) sn sn) sn (ints (entJ j E0 (mem X) i)))) (fun c _ => (mem X).length - (intOf c).toNat)
      case atStart => exact ⟨0, Nat.zero_le _, rfl, Chg.of_below (Below.refl _ _), HB3.out, HO3.out⟩
      case round =>
        obtain ⟨wi, rfl⟩ : ∃ wi : World, wi = wr := ⟨_, rfl⟩
        obtain ⟨i, hi, rfl, hci, hbi, HOi⟩ := hrel
        have HBi := Lib.hid hbi
        have HCI := Lib.hid hci
        by_cases hil : i < (mem X).length
        · have hiI : (i : Int) < ((mem X).length : Int) := by omega
          obtain ⟨b, off, x, rfl, HXx, hbs, e0⟩ := (ic_of (HM.out.chg hci (.inr (by simp; omega)))).at i hil
          obtain ⟨xn, rfl, hxb⟩ := hLm.out i x hil HXx.out
          have hxn : xn < sn := by have := HXI.out xn hxb; dsimp only at this; omega
          have hxI : (xn : Int) < (sn : Int) := by omega
          have HEl : Hid ((entJ j E0 (mem X) i).length = sn) := by show _ = _; rw [entJ_len _ _ _ _ hi]; exact HLJ.out
          have e1 := own_intK HOi.out xn hxn HEl.out
          have f1 : wi.frozen? ⟨w.heap.size + 1, xn, none⟩ = false := HOi.out.frozenAt _
          have HST : Hid (entJ j E0 (mem X) (i + 1) = entS j (entJ j E0 (mem X) i) (xn : Int)) := by show _ = _; rw [entJ_step hil, HXx.out]
          clear hci hbi hxb
          cases hz : decide ((entJ j E0 (mem X) i)[xn]! = 0)
          · have hz' : (entJ j E0 (mem X) i)[xn]! ≠ 0 := by simpa using hz
            have HSK := Lib.hid (entS_skip (i := j) hz')
            obtain ⟨ov, hov⟩ : ∃ ov, ov = (entJ j E0 (mem X) i)[xn]! := ⟨_, rfl⟩
            rw [← hov] at e1 hz'
            have HOV := Lib.hid hov
            clear hz hov
            go_wp2
            go_roundw
            case rel => exact ⟨i + 1, by omega, by go_num, HCI.out, HBi.out, by rw [HST.out, HSK.out]; exact HOi.out⟩
            case measure => simp [intOf]; omega
          · have hz' : (entJ j E0 (mem X) i)[xn]! = 0 := by simpa using hz
            have HSK := Lib.hid (entS_zero (i := j) hz')
            rw [hz'] at e1
            clear hz hz'
            have hj64 : j ≤ 64 := by omega
            go_wp2
            go_roundw
            case rel =>
              have st := own_store1 HOi.out xn ((j : Int) + 1)
              rw [← HSK.out, ← HST.out] at st
              exact ⟨i + 1, by omega, by go_num, HCI.out.trans (Chg.of_grown st.2 (fun g' hg => by cases hg; omega)), HBi.out.setCell (p := ⟨w.heap.size + 1, xn, none⟩) (Nat.le_refl _) _, st.1⟩
            case measure => simp [intOf]; omega
        · obtain rfl : i = (mem X).length := by omega
          clear hci hbi
          go_wp2
          go_roundw
          case rel => exact ⟨j + 1, by omega, by go_num, HC3.out.trans HCI.out, HBi.out, by rw [HEN.out]; exact HOi.out⟩
          case measure => simp [intOf]; omega
    · obtain rfl : j = k + 1 := by omega
      clear hch hb
      have HSE : Hid (sn = ps.length) := HSN.out
      go_wp2
      go_ret
      refine ⟨_, rfl, ?_, below_box HBo.out (by omega)⟩
      show World.ownsRow _ _ _ _ _ ps.length _
      rw [HEE.out, ← HSE.out]
      exact (Own.mono (Own.of HO.out) (by omega) (Nat.le_refl _)).row
end Go.Proofs.Ytbjcabphiddjgaa
