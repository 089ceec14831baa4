/- Contracts of laid and l9Lay. -/
import Derived.Test.YtbaahghfjmkeoaaKdLay0
import Derived.Test.YtbaahghfjmkeoaaKdClose
import Derived.RegionTactic
import Derived.ChangeAlike
set_option linter.unusedVariables false
set_option linter.unusedSimpArgs false
namespace Go.KD
open Go.RowKit
def zrK (l : List Int) (k : Nat) : List Int := List.replicate k 0 ++ l.drop k
theorem zrK_len {l : List Int} {k : Nat} (h : k ≤ l.length) : (zrK l k).length = l.length := by simp [zrK]; omega
theorem zrK_next {l : List Int} {k : Nat} (h : k < l.length) : (zrK l k).set k 0 = zrK l (k + 1) := by
  unfold zrK
  rw [List.set_append_right _ _ (by simp), List.length_replicate, Nat.sub_self, List.drop_eq_getElem_cons h, List.set_cons_zero, List.replicate_succ', List.append_assoc]
  rfl
theorem zrK_all (l : List Int) : zrK l l.length = List.replicate l.length 0 := by simp [zrK]
end Go.KD
namespace Go.Proofs.Ytbaahghfjmkeoaa
open Go.RowKit Go.KD
attribute [local go_sem] later_cell later_frozen
set_option maxRecDepth 100000 in
set_option maxHeartbeats 8000000 in
theorem laid_c (v : Value) (m : Mz) (ac : Option Addr) (cc : Nat) (cs : List Int) (af : Option Addr) (cf : Nat) (f : List Int) (w : World) (hm : MzAt w v m) (ok : MzOk m) (hc : IC w ac cs) (hf : IC w af f) (hlen : f.length = cs.length) (hcs : ∀ j, j < cs.length → 0 ≤ cs[j]! ∧ cs[j]! < 6) (hfr : ∀ j, j < f.length → 0 ≤ f[j]! ∧ f[j]! < m.size) (h12 : f.length ≤ 12) :
    Calls Try.prog 73 #[v, .slice ac cs.length cc, .slice af f.length cf] w fun e w' => ∃ u, e = .returned u ∧ MzOwn w.heap.size w'.heap.size w' u (layM m cs f) ∧ Below w.heap.size w w' := by
  have hM := hm
  obtain ⟨⟨ad, cd, ak, ck, rfl, hd, hk'⟩, nd, nk⟩ := hM
  obtain ⟨i0, ji, jz0, jz1, jz2⟩ := info_parts infoI
  have hs1 : 1 ≤ m.size := ok.s1
  have hnk : (m.keys.length : Int) = m.size := ok.nk
  have hkl : 0 < m.keys.length := by omega
  have hkl12 : m.keys.length ≤ 12 := by have := ok.s2; omega
  have HLB : Hid (∀ j, j ≤ f.length → ∀ x, x < m.keys.length → 0 ≤ (layK m.keys.length cs f j)[x]! ∧ (layK m.keys.length cs f j)[x]! < 64) := layK_bound m.keys.length cs f (fun j hj => hcs j (by omega))
  have HCS := Lib.hid hcs
  have HFR := Lib.hid hfr
  have HLEN := Lib.hid hlen
  have HNK := Lib.hid hnk; clear hnk hcs hfr hlen ok
  go_enter Try.func73, Try.ntmps73
  go_wp2_with fail
  have H6 : Hid (Six ((w.alloc (.cells #[.int .i64 m.size, .slice ad m.doors.length cd, .slice ak m.keys.length ck] 29)).alloc (.cells #[.int .i64 0, .slice none 0 0, .slice none 0 0] 29)) w.heap.size (.int .i64 m.size) (.slice ad m.doors.length cd) (.slice ak m.keys.length ck) (.int .i64 0) (.slice none 0 0) (.slice none 0 0)) := ⟨by simp [go_sem], by simp [go_sem], by simp [go_sem], by simp [go_sem], by simp [go_sem], by simp [go_sem], by simp [go_sem], by simp [go_sem], by simp [go_sem], by simp⟩
  refine (own_c _ m _ (hm.later (by (repeat (first | exact Below.refl _ _ | apply Below.drew | apply below_drewN | (refine Below.setCell ?_ (by first | omega | (simp; done) | (simp; omega) | (dsimp only; omega)) _) | (refine Below.alloc ?_ (by first | omega | (simp; done) | (simp; omega) | (dsimp only; omega)) _)))))).mono ?_
  rintro e w1 ⟨u, rfl, ho, hb1⟩
  have hz1 := hb1.size
  simp only [World.size_alloc] at hz1
  have HB0 : Hid (Below (w.heap.size + 2) ((w.alloc (.cells #[.int .i64 m.size, .slice ad m.doors.length cd, .slice ak m.keys.length ck] 29)).alloc (.cells #[.int .i64 0, .slice none 0 0, .slice none 0 0] 29)) w1) := hb1.mono (by simp)
  obtain ⟨e3, e1, vd, vk, rfl, o1, o2, hap⟩ := ho
  obtain ⟨g, capk, rfl, -, -⟩ := o2.row.form hkl
  obtain ⟨ad2, cd2, rfl⟩ := o1.slice
  simp only [World.size_alloc] at o1 o2
  have HO1 := Lib.hid o1
  have HAP := Lib.hid hap
  have hgb := o2.blocks g rfl
  have HO2 := Lib.hid o2
  clear hb1 o1 o2 hap
  obtain ⟨w2, hw2⟩ : ∃ w2, w2 = w1.alloc (.cells #[.int .i64 m.size, .slice ad2 m.doors.length cd2, .slice (some ⟨g, 0, none⟩) m.keys.length capk] 29) := ⟨_, rfl⟩
  have hbx : Below w1.heap.size w1 w2 := by rw [hw2]; exact (Below.refl _ _).alloc (Nat.le_refl _) _
  have hb2 : Below (w1.heap.size + 1) (w1.alloc (.cells #[.int .i64 m.size, .slice ad2 m.doors.length cd2, .slice (some ⟨g, 0, none⟩) m.keys.length capk] 29)) w2 := by rw [hw2]; exact Below.refl _ _
  obtain ⟨q0, q1, q2, z2⟩ := box3 hb2 (by omega)
  have HBX := Lib.hid hbx
  have HR2 := Lib.hid (HO2.out.later hbx (Nat.le_refl _))
  have HD2 := Lib.hid (HO1.out.later hbx (Nat.le_refl _))
  have HB2 : Hid (Below (w.heap.size + 2) ((w.alloc (.cells #[.int .i64 m.size, .slice ad m.doors.length cd, .slice ak m.keys.length ck] 29)).alloc (.cells #[.int .i64 0, .slice none 0 0, .slice none 0 0] 29)) w2) := HB0.out.trans (hbx.mono (by omega))
  have HW2 := Lib.hid hw2.symm
  have hz2 := hbx.size
  clear hbx hb2 hw2
  obtain ⟨w3, hrun3, hown3, hgrow3⟩ := run_clear_ints w2 23 0 3 e1 i0 Try.underlying23 ji jz0 (w.heap.size + 2) g m.keys.length capk m.keys hkl HR2.out.row
  rw [← HW2.out] at hrun3
  go_wp2
  have HR3 : Hid (Own (w.heap.size + 2) w1.heap.size w3 e1 1 (.slice (some ⟨g, 0, none⟩) m.keys.length capk) m.keys.length (ints (layK m.keys.length cs f 0))) := ⟨hown3, HR2.out.top⟩
  have HCH3 : Hid (Chg (w.heap.size + 2) w1.heap.size w2 w3) := Chg.of_grown hgrow3 (fun g' hg => by cases hg; exact hgb)
  have HD3 := Lib.hid (HD2.out.grown_ne hgrow3 (fun g' hg e => by cases e; exact HAP.out g hg rfl))
  clear hown3 hgrow3

  go_loopw [16] (fun i wr => ∃ k : Nat, k ≤ f.length ∧ i = .int .i64 k ∧ Chg (w.heap.size + 2) w1.heap.size w2 wr ∧ Hid (Own (w.heap.size + 2) w1.heap.size wr e1 1 (.slice (some ⟨g, 0, none⟩) m.keys.length capk) m.keys.length (ints (layK m.keys.length cs f k))) ∧ Hid (Own (w.heap.size + 2) w1.heap.size wr e3 3 (.slice ad2 m.doors.length cd2) m.doors.length (c3 m.doors))) (fun i _ => f.length - (intOf i).toNat)
  case atStart => exact ⟨0, Nat.zero_le _, rfl, HCH3.out, HR3.out, HD3.out⟩
  case round =>
    obtain ⟨wi, rfl⟩ : ∃ wi : World, wi = wr := ⟨_, rfl⟩
    obtain ⟨k, hk, rfl, hch, HR, HD⟩ := hrel
    have r0 : wi.cell? ⟨w1.heap.size, 0, none⟩ = some (.int .i64 m.size) := (hch.cell (p := ⟨w1.heap.size, 0, none⟩) z2 (.inr (Nat.le_refl _))).trans q0
    have r1 : wi.cell? ⟨w1.heap.size, 1, none⟩ = some (.slice ad2 m.doors.length cd2) := (hch.cell (p := ⟨w1.heap.size, 1, none⟩) z2 (.inr (Nat.le_refl _))).trans q1
    have r2 : wi.cell? ⟨w1.heap.size, 2, none⟩ = some (.slice (some ⟨g, 0, none⟩) m.keys.length capk) := (hch.cell (p := ⟨w1.heap.size, 2, none⟩) z2 (.inr (Nat.le_refl _))).trans q2
    have HCB : Hid (Below (w.heap.size + 2) w2 wi) := hch.below (Nat.le_refl _) (by omega)
    have HBi := Lib.hid (HB2.out.trans HCB.out)
    have HBiw : Hid (Below w.heap.size w wi) := (((Below.refl w.heap.size w).alloc (Nat.le_refl _) _).alloc (by simp) _).trans (HBi.out.mono (by omega))
    have HCH := Lib.hid hch
    clear hch
    by_cases hlt : k < f.length
    · have hkk : (k : Int) < (f.length : Int) := by omega
      have hkc : k < cs.length := by have := HLEN.out; omega
      have hkcI : (k : Int) < (cs.length : Int) := by omega
      obtain ⟨b, off, x, rfl, HX, hbs, e0⟩ := (hf.later HBiw.out).at k hlt
      have hx := HFR.out k hlt
      rw [HX.out] at hx
      obtain ⟨xn, rfl⟩ := Int.eq_ofNat_of_zero_le hx.1
      obtain ⟨b2, off2, c, rfl, HC, hbs2, e1'⟩ := (hc.later HBiw.out).at k hkc
      have hcc := HCS.out k hkc
      rw [HC.out] at hcc
      obtain ⟨cn, rfl⟩ := Int.eq_ofNat_of_zero_le hcc.1
      obtain ⟨p, HP, ep, hp⟩ := shl_at cn (by omega)
      have hc12 : (cn : Int) < 12 := by omega
      have hxn : xn < m.keys.length := by have := HNK.out; omega
      have hxI : (xn : Int) < (m.keys.length : Int) := by omega
      have hov := HLB.out k hk xn hxn
      have e2' := own_intK HR.out.row xn hxn (by simp)
      have f0 : wi.frozen? ⟨g, xn, none⟩ = false := HR.out.row.frozenAt _
      obtain ⟨on, hon⟩ := Int.eq_ofNat_of_zero_le hov.1
      rw [hon] at hov e2'
      have HNX : Hid ((layK m.keys.length cs f k).set xn ((on ||| p : Nat) : Int) = layK m.keys.length cs f (k + 1)) := by
        show _ = layS (layK m.keys.length cs f k) f[k]! cs[k]!
        rw [HX.out, HC.out, layS]
        simp only [Int.toNat_natCast]
        rw [hon, HP.out]; rfl
      clear hon
      have eo : bits .or .i64 (on : Int) (p : Int) = ((on ||| p : Nat) : Int) := i64_or on p (by omega) (by omega)
      go_wp2
      go_region
      all_goals
        go_wp2
        go_roundw
        case rel =>
          have st := own_store1 HR.out.row xn ((on ||| p : Nat) : Int)
          rw [HNX.out] at st
          have ht := HR.out.top
          refine ⟨k + 1, by omega, by go_num, ?_, ?_, ?_⟩
          · exact (HCH.out.trans (Chg.of_grown st.2 (fun g' hg => by cases hg; exact hgb))).trans (Chg.of_below ((Below.refl _ _).drew))
          · exact (⟨st.1, ht⟩ : Own _ _ _ _ _ _ _ _).later ((Below.refl _ _).drew) (by have := HCH.out.size; simp; omega)
          · exact (HD.out.grown_ne st.2 (fun g' hg e => by cases e; exact HAP.out g hg rfl)).later ((Below.refl _ _).drew) (by have := HCH.out.size; simp; omega)
        case measure => simp [intOf]; omega
    · obtain rfl : k = f.length := by omega
      have HS6 : Hid (Six wi w.heap.size (.int .i64 m.size) (.slice ad m.doors.length cd) (.slice ak m.keys.length ck) (.int .i64 0) (.slice none 0 0) (.slice none 0 0)) := H6.out.later (HBi.out.mono (by simp))
      obtain ⟨s0, s1, s2, s3, s4, s5, s6, s7, s8, s9⟩ := HS6.out
      have hzi := HCH.out.size
      have O2 := HD.out
      have O3 := HR.out
      have hap := HAP.out
      have hB3 := HBiw.out
      go_wp2
      refine bodyPost_ret (v := .agg #[.int .i64 m.size, .slice ad2 m.doors.length cd2, .slice (some ⟨g, 0, none⟩) m.keys.length capk]) (by simp [results, Try.results73, go_sem, s3, s4, s5]) rfl ?_
      refine ⟨_, rfl, ⟨e3, e1, _, _, rfl, ?_, ?_, hap⟩, ?_⟩
      · refine Own.mono (lo := w.heap.size + 2) (hi := w1.heap.size) ?_ (by omega) (by simp; omega)
        repeat (first | exact O2 | refine Own.setCell ?_ (.inl (by show w.heap.size + 1 < _; omega)) _)
      · have hl : (layM m cs f).keys.length = m.keys.length := by simp [layM]
        rw [hl]
        refine Own.mono (lo := w.heap.size + 2) (hi := w1.heap.size) ?_ (by omega) (by simp; omega)
        repeat (first | exact O3 | refine Own.setCell ?_ (.inl (by show w.heap.size + 1 < _; omega)) _)
      · repeat (first | exact hB3 | refine Below.setCell ?_ (by show w.heap.size ≤ w.heap.size + 1; omega) _)
set_option maxRecDepth 100000 in
set_option maxHeartbeats 8000000 in
theorem l9Lay_c (v : Value) (m : Mz) (ac : Option Addr) (cc : Nat) (cs : List Int) (af : Option Addr) (cf : Nat) (f : List Int) (w : World) (hm : MzAt w v m) (ok : MzOk m) (hc : IC w ac cs) (hf : IC w af f) (hlen : f.length = cs.length) (hcs : ∀ j, j < cs.length → 0 ≤ cs[j]! ∧ cs[j]! < 6) (hfr : ∀ j, j < f.length → 0 ≤ f[j]! ∧ f[j]! < m.size) (h12 : f.length ≤ 12) :
    Calls Try.prog 69 #[v, .slice ac cs.length cc, .slice af f.length cf] w fun e w' => ∃ u, e = .returned u ∧ MzOwn w.heap.size w'.heap.size w' u (layM m cs f) ∧ Below w.heap.size w w' := by
  have hM := hm
  obtain ⟨⟨ad, cd, ak, ck, rfl, hd, hk'⟩, nd, nk⟩ := hM
  obtain ⟨i0, ji, jz0, jz1, jz2⟩ := info_parts infoI
  have hs1 : 1 ≤ m.size := ok.s1
  have hnk : (m.keys.length : Int) = m.size := ok.nk
  have hkl : 0 < m.keys.length := by omega
  have hkl12 : m.keys.length ≤ 12 := by have := ok.s2; omega
  have HLB : Hid (∀ j, j ≤ f.length → ∀ x, x < m.keys.length → 0 ≤ (layK m.keys.length cs f j)[x]! ∧ (layK m.keys.length cs f j)[x]! < 64) := layK_bound m.keys.length cs f (fun j hj => hcs j (by omega))
  have HCS := Lib.hid hcs
  have HFR := Lib.hid hfr
  have HLEN := Lib.hid hlen
  have HNK := Lib.hid hnk; clear hnk hcs hfr hlen ok
  go_enter Try.func69, Try.ntmps69
  go_wp2_with fail
  have H6 : Hid (Six ((w.alloc (.cells #[.int .i64 m.size, .slice ad m.doors.length cd, .slice ak m.keys.length ck] 29)).alloc (.cells #[.int .i64 0, .slice none 0 0, .slice none 0 0] 29)) w.heap.size (.int .i64 m.size) (.slice ad m.doors.length cd) (.slice ak m.keys.length ck) (.int .i64 0) (.slice none 0 0) (.slice none 0 0)) := ⟨by simp [go_sem], by simp [go_sem], by simp [go_sem], by simp [go_sem], by simp [go_sem], by simp [go_sem], by simp [go_sem], by simp [go_sem], by simp [go_sem], by simp⟩
  refine (l2Own_c _ m _ (hm.later (by (repeat (first | exact Below.refl _ _ | apply Below.drew | apply below_drewN | (refine Below.setCell ?_ (by first | omega | (simp; done) | (simp; omega) | (dsimp only; omega)) _) | (refine Below.alloc ?_ (by first | omega | (simp; done) | (simp; omega) | (dsimp only; omega)) _)))))).mono ?_
  rintro e w1 ⟨u, rfl, ho, hb1⟩
  have hz1 := hb1.size
  simp only [World.size_alloc] at hz1
  have HB0 : Hid (Below (w.heap.size + 2) ((w.alloc (.cells #[.int .i64 m.size, .slice ad m.doors.length cd, .slice ak m.keys.length ck] 29)).alloc (.cells #[.int .i64 0, .slice none 0 0, .slice none 0 0] 29)) w1) := hb1.mono (by simp)
  obtain ⟨e3, e1, vd, vk, rfl, o1, o2, hap⟩ := ho
  obtain ⟨g, capk, rfl, -, -⟩ := o2.row.form hkl
  obtain ⟨ad2, cd2, rfl⟩ := o1.slice
  simp only [World.size_alloc] at o1 o2
  have HO1 := Lib.hid o1
  have HAP := Lib.hid hap
  have hgb := o2.blocks g rfl
  have HO2 := Lib.hid o2
  clear hb1 o1 o2 hap
  obtain ⟨w2, hw2⟩ : ∃ w2, w2 = w1.alloc (.cells #[.int .i64 m.size, .slice ad2 m.doors.length cd2, .slice (some ⟨g, 0, none⟩) m.keys.length capk] 29) := ⟨_, rfl⟩
  have hbx : Below w1.heap.size w1 w2 := by rw [hw2]; exact (Below.refl _ _).alloc (Nat.le_refl _) _
  have hb2 : Below (w1.heap.size + 1) (w1.alloc (.cells #[.int .i64 m.size, .slice ad2 m.doors.length cd2, .slice (some ⟨g, 0, none⟩) m.keys.length capk] 29)) w2 := by rw [hw2]; exact Below.refl _ _
  obtain ⟨q0, q1, q2, z2⟩ := box3 hb2 (by omega)
  have HBX := Lib.hid hbx
  have HR2 := Lib.hid (HO2.out.later hbx (Nat.le_refl _))
  have HD2 := Lib.hid (HO1.out.later hbx (Nat.le_refl _))
  have HB2 : Hid (Below (w.heap.size + 2) ((w.alloc (.cells #[.int .i64 m.size, .slice ad m.doors.length cd, .slice ak m.keys.length ck] 29)).alloc (.cells #[.int .i64 0, .slice none 0 0, .slice none 0 0] 29)) w2) := HB0.out.trans (hbx.mono (by omega))
  have HW2 := Lib.hid hw2.symm
  have hz2 := hbx.size
  clear hbx hb2 hw2
  go_wp2
  rw [HW2.out]
  go_loopw [8] (fun i wr => ∃ k : Nat, k ≤ m.keys.length ∧ i = .int .i64 k ∧ Chg (w.heap.size + 2) w1.heap.size w2 wr ∧ Hid (Own (w.heap.size + 2) w1.heap.size wr e1 1 (.slice (some ⟨g, 0, none⟩) m.keys.length capk) m.keys.length (ints (zrK m.keys k))) ∧ Hid (Own (w.heap.size + 2) w1.heap.size wr e3 3 (.slice ad2 m.doors.length cd2) m.doors.length (c3 m.doors))) (fun i _ => m.keys.length - (intOf i).toNat)
  case atStart => exact ⟨0, Nat.zero_le _, rfl, Chg.of_below (Below.refl _ _), by rw [show zrK m.keys 0 = m.keys from by simp [zrK]]; exact HR2, HD2⟩
  case round =>
   obtain ⟨wj, rfl⟩ : ∃ wj : World, wj = wr := ⟨_, rfl⟩
   obtain ⟨k, hk, rfl, hch, HR, HD⟩ := hrel
   have r2 : wj.cell? ⟨w1.heap.size, 2, none⟩ = some (.slice (some ⟨g, 0, none⟩) m.keys.length capk) := (hch.cell (p := ⟨w1.heap.size, 2, none⟩) z2 (.inr (Nat.le_refl _))).trans q2
   have HS6 : Hid (Six wj w.heap.size (.int .i64 m.size) (.slice ad m.doors.length cd) (.slice ak m.keys.length ck) (.int .i64 0) (.slice none 0 0) (.slice none 0 0)) := H6.out.later ((HB2.out.trans (hch.below (Nat.le_refl _) (by omega))).mono (by simp))
   have s0 := HS6.out.a
   have HCH := Lib.hid hch
   clear hch
   by_cases hlt : k < m.keys.length
   · have hkk : (k : Int) < (m.keys.length : Int) := by omega
     have hks : (k : Int) < m.size := by have := HNK.out; omega
     obtain ⟨⟨u0, e0⟩, f0⟩ := own_cell HR.out.row k (by omega)
     have HNX := Lib.hid (zrK_next hlt)
     go_wp2
     go_roundw
     case rel =>
       have st := own_store1 HR.out.row k 0
       rw [HNX.out] at st
       have ht := HR.out.top
       exact ⟨k + 1, by omega, by go_num, HCH.out.trans (Chg.of_grown st.2 (fun g' hg => by cases hg; exact hgb)), ⟨st.1, ht⟩, HD.out.grown_ne st.2 (fun g' hg e => by cases e; exact HAP.out g hg rfl)⟩
     case measure => simp [intOf]; omega
   · obtain rfl : k = m.keys.length := by omega
     have hks : ¬ ((m.keys.length : Int) < m.size) := by have := HNK.out; omega
     have HR3 : Hid (Own (w.heap.size + 2) w1.heap.size wj e1 1 (.slice (some ⟨g, 0, none⟩) m.keys.length capk) m.keys.length (ints (layK m.keys.length cs f 0))) := by show Own _ _ _ _ _ _ _ _; have := HR.out; rw [zrK_all] at this; exact this
     have HCH3 := HCH
     have HD3 := HD
     clear HCH HD HR r2 HS6
     go_wp2

     go_loopw [9] (fun i wr => ∃ k : Nat, k ≤ f.length ∧ i = .int .i64 k ∧ Chg (w.heap.size + 2) w1.heap.size w2 wr ∧ Hid (Own (w.heap.size + 2) w1.heap.size wr e1 1 (.slice (some ⟨g, 0, none⟩) m.keys.length capk) m.keys.length (ints (layK m.keys.length cs f k))) ∧ Hid (Own (w.heap.size + 2) w1.heap.size wr e3 3 (.slice ad2 m.doors.length cd2) m.doors.length (c3 m.doors))) (fun i _ => f.length - (intOf i).toNat)
     case atStart => exact ⟨0, Nat.zero_le _, rfl, HCH3.out, HR3.out, HD3.out⟩
     case round =>
       obtain ⟨wi, rfl⟩ : ∃ wi : World, wi = wr := ⟨_, rfl⟩
       obtain ⟨k, hk, rfl, hch, HR, HD⟩ := hrel
       have r0 : wi.cell? ⟨w1.heap.size, 0, none⟩ = some (.int .i64 m.size) := (hch.cell (p := ⟨w1.heap.size, 0, none⟩) z2 (.inr (Nat.le_refl _))).trans q0
       have r1 : wi.cell? ⟨w1.heap.size, 1, none⟩ = some (.slice ad2 m.doors.length cd2) := (hch.cell (p := ⟨w1.heap.size, 1, none⟩) z2 (.inr (Nat.le_refl _))).trans q1
       have r2 : wi.cell? ⟨w1.heap.size, 2, none⟩ = some (.slice (some ⟨g, 0, none⟩) m.keys.length capk) := (hch.cell (p := ⟨w1.heap.size, 2, none⟩) z2 (.inr (Nat.le_refl _))).trans q2
       have HCB : Hid (Below (w.heap.size + 2) w2 wi) := hch.below (Nat.le_refl _) (by omega)
       have HBi := Lib.hid (HB2.out.trans HCB.out)
       have HBiw : Hid (Below w.heap.size w wi) := (((Below.refl w.heap.size w).alloc (Nat.le_refl _) _).alloc (by simp) _).trans (HBi.out.mono (by omega))
       have HCH := Lib.hid hch
       clear hch
       by_cases hlt : k < f.length
       · have hkk : (k : Int) < (f.length : Int) := by omega
         have hkc : k < cs.length := by have := HLEN.out; omega
         have hkcI : (k : Int) < (cs.length : Int) := by omega
         obtain ⟨b, off, x, rfl, HX, hbs, e0⟩ := (hf.later HBiw.out).at k hlt
         have hx := HFR.out k hlt
         rw [HX.out] at hx
         obtain ⟨xn, rfl⟩ := Int.eq_ofNat_of_zero_le hx.1
         obtain ⟨b2, off2, c, rfl, HC, hbs2, e1'⟩ := (hc.later HBiw.out).at k hkc
         have hcc := HCS.out k hkc
         rw [HC.out] at hcc
         obtain ⟨cn, rfl⟩ := Int.eq_ofNat_of_zero_le hcc.1
         obtain ⟨p, HP, ep, hp⟩ := shl_at cn (by omega)
         have hc12 : (cn : Int) < 12 := by omega
         have hxn : xn < m.keys.length := by have := HNK.out; omega
         have hxI : (xn : Int) < (m.keys.length : Int) := by omega
         have hov := HLB.out k hk xn hxn
         have e2' := own_intK HR.out.row xn hxn (by simp)
         have f0 : wi.frozen? ⟨g, xn, none⟩ = false := HR.out.row.frozenAt _
         obtain ⟨on, hon⟩ := Int.eq_ofNat_of_zero_le hov.1
         rw [hon] at hov e2'
         have HNX : Hid ((layK m.keys.length cs f k).set xn ((on ||| p : Nat) : Int) = layK m.keys.length cs f (k + 1)) := by
           show _ = layS (layK m.keys.length cs f k) f[k]! cs[k]!
           rw [HX.out, HC.out, layS]
           simp only [Int.toNat_natCast]
           rw [hon, HP.out]; rfl
         clear hon
         have eo : bits .or .i64 (on : Int) (p : Int) = ((on ||| p : Nat) : Int) := i64_or on p (by omega) (by omega)
         go_wp2
         go_region
         all_goals
           go_wp2
           go_roundw
           case rel =>
             have st := own_store1 HR.out.row xn ((on ||| p : Nat) : Int)
             rw [HNX.out] at st
             have ht := HR.out.top
             refine ⟨k + 1, by omega, by go_num, ?_, ?_, ?_⟩
             · exact (HCH.out.trans (Chg.of_grown st.2 (fun g' hg => by cases hg; exact hgb))).trans (Chg.of_below ((Below.refl _ _).drew))
             · exact (⟨st.1, ht⟩ : Own _ _ _ _ _ _ _ _).later ((Below.refl _ _).drew) (by have := HCH.out.size; simp; omega)
             · exact (HD.out.grown_ne st.2 (fun g' hg e => by cases e; exact HAP.out g hg rfl)).later ((Below.refl _ _).drew) (by have := HCH.out.size; simp; omega)
           case measure => simp [intOf]; omega
       · obtain rfl : k = f.length := by omega
         have HS6 : Hid (Six wi w.heap.size (.int .i64 m.size) (.slice ad m.doors.length cd) (.slice ak m.keys.length ck) (.int .i64 0) (.slice none 0 0) (.slice none 0 0)) := H6.out.later (HBi.out.mono (by simp))
         obtain ⟨s0, s1, s2, s3, s4, s5, s6, s7, s8, s9⟩ := HS6.out
         have hzi := HCH.out.size
         have O2 := HD.out
         have O3 := HR.out
         have hap := HAP.out
         have hB3 := HBiw.out
         go_wp2
         refine bodyPost_ret (v := .agg #[.int .i64 m.size, .slice ad2 m.doors.length cd2, .slice (some ⟨g, 0, none⟩) m.keys.length capk]) (by simp [results, Try.results69, go_sem, s3, s4, s5]) rfl ?_
         refine ⟨_, rfl, ⟨e3, e1, _, _, rfl, ?_, ?_, hap⟩, ?_⟩
         · refine Own.mono (lo := w.heap.size + 2) (hi := w1.heap.size) ?_ (by omega) (by simp; omega)
           repeat (first | exact O2 | refine Own.setCell ?_ (.inl (by show w.heap.size + 1 < _; omega)) _)
         · have hl : (layM m cs f).keys.length = m.keys.length := by simp [layM]
           rw [hl]
           refine Own.mono (lo := w.heap.size + 2) (hi := w1.heap.size) ?_ (by omega) (by simp; omega)
           repeat (first | exact O3 | refine Own.setCell ?_ (.inl (by show w.heap.size + 1 < _; omega)) _)
         · repeat (first | exact hB3 | refine Below.setCell ?_ (by show w.heap.size ≤ w.heap.size + 1; omega) _)
end Go.Proofs.Ytbaahghfjmkeoaa
