/- Contract of keysLeft. Printed by gen_left.py. -/
import Derived.Test.YtbaahghfjmkeoaaKdLeft0
set_option linter.unusedVariables false
set_option linter.unusedSimpArgs false
namespace Go.KD
open Go.RowKit
theorem mem_atZ {n k : Nat} {x : Int} (hk : k < (mem n).length) (h : (mem n)[k]! = x) : ∃ i : Nat, x = i ∧ n.testBit i = true := by
  have hm : x ∈ mem n := by rw [← h, getElem!_pos _ k hk]; exact List.getElem_mem hk
  obtain ⟨i, _, hb, he⟩ := (in_mem n x).1 hm
  exact ⟨i, he, hb⟩
end Go.KD
namespace Go.Proofs.Ytbaahghfjmkeoaa
open Go.RowKit Go.KD
attribute [local go_sem] later_cell later_frozen
set_option maxRecDepth 100000 in
set_option maxHeartbeats 16000000 in
theorem keysLeft_c (v : Value) (m : Mz) (O : Nat) (w : World) (hm : MzAt w v m) (ok : MzOk m) (hO : O < 1073741824) (hOd : ∀ i, O.testBit i = true → i < m.doors.length) : Calls Try.prog 97 #[v, .int .i64 O] w fun e w' =>
    ∃ u, e = .returned u ∧ w'.ownsRow w.heap.size 3 1 u 6 (ints (leftL m (nearN m O) (mem O))) ∧ Below w.heap.size w w' := by
  have hM := hm
  obtain ⟨⟨ad, cd, ak, ck, rfl, hd, hk'⟩, nd, nk⟩ := hM
  obtain ⟨i0, ji, jz0, jz1, jz2⟩ := info_parts infoI
  have hng : m.doors.length ≤ 30 := ok.nd
  have hnk : (m.keys.length : Int) = m.size := ok.nk
  have HNK := Lib.hid hnk; clear hnk
  have HOD := Lib.hid hOd; clear hOd
  have HNIN := Lib.hid (nearN_in ok O)
  have hNl := (nearN_in ok O).lt ok
  have HLR := Lib.hid (leftL_row m (nearN m O) (mem O))
  have OK := Lib.hid ok; clear ok
  have J2 := Lib.hid jz2
  go_enter Try.func97, Try.ntmps97
  go_wp2_with (refine wpList_make_full _ rfl _ _ 23 rfl (w.heap.size + 1) 3 i0 (.int .i64 0) 1 Try.underlying23 ji jz0 jz1 .i64 .i64 _ _ 6 rfl rfl rfl rfl ?_ ?_ (by simp) ?_; (rw [J2.out]; omega); (unfold maxLen; omega); intro w1 hown hg; rw [madeI] at hown; simp only [World.size_alloc] at hown ⊢; have HO1 := Lib.hid hown; have HB1 : Hid (Below (w.heap.size + 1) (w.alloc (.cells #[.int .i64 m.size, .slice ad m.doors.length cd, .slice ak m.keys.length ck] 29)) w1) := (Below.refl _ _).grown hg (by simp) (fun k h => by cases h); obtain ⟨q0, q1, q2, z1⟩ := box3 HB1.out (by omega); clear hown hg)
  have hz1 := (Own.of HO1.out).top _ rfl
  refine (near_c _ m O _ (hm.later (below_box HB1.out (by omega))) OK.out hO).mono ?_
  rintro e w2 ⟨rfl, hb2⟩
  have hz2 := hb2.size
  have HB2 : Hid (Below (w.heap.size + 1) (w.alloc (.cells #[.int .i64 m.size, .slice ad m.doors.length cd, .slice ak m.keys.length ck] 29)) w2) := HB1.out.trans (hb2.mono (by omega))
  have HR2 := Lib.hid (own_below HO1.out hb2)
  obtain ⟨N, hN⟩ : ∃ N, N = nearN m O := ⟨_, rfl⟩
  rw [← hN] at HNIN hNl HLR ⊢
  have HN := Lib.hid hN; clear hN hb2 q0 q1 q2
  go_wp2_with fail
  refine (members_c N (by omega) _).mono ?_
  rintro e w3 ⟨v3, rfl, ho3, hb3⟩
  have HMw3 := Lib.hid (Own.of ho3)
  obtain ⟨a3, c3, rfl, -, -⟩ := (Own.of ho3).ic
  have hzw3 : w.heap.size + 2 ≤ w2.heap.size := by omega
  have hzz3 := hb3.size
  have HBw3 : Hid (Below (w.heap.size + 1) (w.alloc (.cells #[.int .i64 m.size, .slice ad m.doors.length cd, .slice ak m.keys.length ck] 29)) w3) := HB2.out.trans (hb3.mono (by omega))
  have HRw3 : Hid (w3.ownsRow (w.heap.size + 1) 3 1 (.slice (some ⟨w.heap.size + 1, 0, none⟩) 6 6) 6 (ints (row6 (fun c => cntL (keyG m) ((mem N).take 0) c)))) := own_below HR2.out hb3
  clear ho3 hb3
  go_wp2
  go_loopw [20] (fun i wr => ∃ k : Nat, k ≤ (mem N).length ∧ i = .int .i64 k ∧ Chg (w.heap.size + 1) (w.heap.size + 2) w3 wr ∧ Below (w.heap.size + 1) (w.alloc (.cells #[.int .i64 m.size, .slice ad m.doors.length cd, .slice ak m.keys.length ck] 29)) wr ∧ Hid (wr.ownsRow (w.heap.size + 1) 3 1 (.slice (some ⟨w.heap.size + 1, 0, none⟩) 6 6) 6 (ints (row6 (fun c => cntL (keyG m) ((mem N).take k) c))))) (fun i _ => (mem N).length - (intOf i).toNat)
  case atStart => exact ⟨0, Nat.zero_le _, rfl, Chg.of_below (Below.refl _ _), HBw3.out, HRw3.out⟩
  case round =>
    obtain ⟨wo, rfl⟩ : ∃ wo : World, wo = wr := ⟨_, rfl⟩
    obtain ⟨k, hk, rfl, hch, hb, HO⟩ := hrel
    have HBo := Lib.hid hb
    have HCo := Lib.hid hch
    have h40L := mem_len40z N
    by_cases hlt : k < (mem N).length
    · have hkI : (k : Int) < ((mem N).length : Int) := by omega
      obtain ⟨b, off, x, hax, HX, hbs, e0⟩ := (ic_of (HMw3.out.chg hch (.inr (by have := hzw3; omega)))).at k hlt
      cases hax
      obtain ⟨xn, hxe, hxb⟩ := mem_atZ hlt HX.out
      subst hxe
      have HXB := Lib.hid hxb
      have hxk : xn < m.keys.length := by have := HNIN.out xn hxb; have := HNK.out; omega
      have hxI : (xn : Int) < (m.keys.length : Int) := by omega
      have hky := key_facts OK.out hxk
      obtain ⟨b2, off2, y, hay, HY, hbs2, e1⟩ := (hk'.later (below_box HBo.out (by omega))).at xn hxk
      subst hay
      rw [HY.out] at hky
      obtain ⟨K, rfl⟩ := Int.eq_ofNat_of_zero_le hky.1
      have HG : Hid (keyG m xn = K) := by show _ = _; unfold keyG; rw [HY.out]; rfl
      have HFS : Hid (row6 (fun c => cntL (keyG m) ((mem N).take (k + 1)) c) = row6 (fun c => (fun c => cntL (keyG m) ((mem N).take k) c) c + 1 * inL (mem K) c)) := row6_congr fun c hc => by
        have := cntL_step hlt HX.out HG.out hc
        dsimp only
        omega
      have HF1 : Hid (∀ c, -1000 ≤ (fun c => cntL (keyG m) ((mem N).take k) c) c ∧ (fun c => cntL (keyG m) ((mem N).take k) c) c ≤ 1000) := fun c => by
        have h1 := cntL_bound (keyG m) ((mem N).take k) c
        have h2 := mem_len40z N
        have h3 : ((mem N).take k).length ≤ (mem N).length := by simp; omega
      
        dsimp only
        omega
      obtain ⟨F, hF⟩ : ∃ F, F = (fun c => cntL (keyG m) ((mem N).take k) c) := ⟨_, rfl⟩
      rw [← hF] at HFS HF1 HO
      obtain ⟨q0, q1, q2, z3⟩ := box3 HBo.out (by omega)
      clear hF hxb hch hb
      have h40K := mem_len40z K
      go_wp2_with fail
      refine (members_c K (by omega) _).mono ?_
      rintro e wm ⟨vm, rfl, hom, hbm⟩
      obtain ⟨am, cm, rfl, -, -⟩ := (Own.of hom).ic
      have hzm := hbm.size
      have hzo : w.heap.size + 1 < wo.heap.size := by have := HCo.out.size; omega
      have HMm := Lib.hid (Own.of hom)
      have HBm : Hid (Below (w.heap.size + 1) (w.alloc (.cells #[.int .i64 m.size, .slice ad m.doors.length cd, .slice (some ⟨b2, off2, none⟩) m.keys.length ck] 29)) wm) := HBo.out.trans ( (hbm.mono ((by first | omega | (simp; done) | (simp; omega) | (dsimp only; omega)))))
      have HCm : Hid (Chg (w.heap.size + 1) (w.heap.size + 2) w3 wm) := HCo.out.trans (Chg.of_below ( (hbm.mono ((by first | omega | (simp; done) | (simp; omega) | (dsimp only; omega))))))
      have HRm : Hid (wm.ownsRow (w.heap.size + 1) 3 1 (.slice (some ⟨w.heap.size + 1, 0, none⟩) 6 6) 6 (ints (rowS F 1 (mem K) 0))) := by rw [rowS_zero]; exact own_below HO.out ( (hbm.mono ((by first | omega | (simp; done) | (simp; omega) | (dsimp only; omega)))))
      have HK6 : Hid (∀ j i, (mem K)[j]! = ((i : Nat) : Int) → j < (mem K).length → i < 6) := fun j i h hj => by
        obtain ⟨i', h1, h2⟩ := mem_atZ hj h
        have := bit_lt (n := 6) (by omega) h2
        omega
      clear e0 e1 hbm hom q0 q1 q2
      go_wp2
      go_loopw [31] (fun c wr => ∃ i : Nat, i ≤ (mem K).length ∧ c = .int .i64 i ∧ Chg (w.heap.size + 1) (w.heap.size + 2) wm wr ∧ Below (w.heap.size + 1) (w.alloc (.cells #[.int .i64 m.size, .slice ad m.doors.length cd, .slice (some ⟨b2, off2, none⟩) m.keys.length ck] 29)) wr ∧ Hid (wr.ownsRow (w.heap.size + 1) 3 1 (.slice (some ⟨w.heap.size + 1, 0, none⟩) 6 6) 6 (ints (rowS F 1 (mem K) i)))) (fun c _ => (mem K).length - (intOf c).toNat)
      case atStart => exact ⟨0, Nat.zero_le _, rfl, Chg.of_below (Below.refl _ _), HBm.out, HRm.out⟩
      case round =>
        obtain ⟨wi, rfl⟩ : ∃ wi : World, wi = wr := ⟨_, rfl⟩
        obtain ⟨i, hi, rfl, hci, hbi, HOi⟩ := hrel
        have HBi := Lib.hid hbi
        have HCI := Lib.hid hci
        by_cases hil : i < (mem K).length
        · have hiI : (i : Int) < ((mem K).length : Int) := by omega
          obtain ⟨b4, off4, c4, hac, HC, hbs4, e4⟩ := (ic_of (HMm.out.chg hci (.inr (by omega)))).at i hil
          cases hac
          obtain ⟨cn, hce, hcb⟩ := mem_atZ hil HC.out
          subst hce
          have hc6 := HK6.out i cn HC.out hil
          have hcI : (cn : Int) < 6 := by omega
          have e5 := own_intZ HOi.out cn hc6 (by simp)
          have f5 : wi.frozen? ⟨w.heap.size + 1, cn, none⟩ = false := HOi.out.frozenAt _
          have HST : Hid ((rowS F 1 (mem K) i).set cn ((rowS F 1 (mem K) i)[cn]! + 1) = rowS F 1 (mem K) (i + 1)) := rowS_step hil (mem_nodup K) HC.out hc6
          have hov := rowS_bound (L := mem K) (j := i) hc6 (.inl rfl : (1 : Int) = 1 ∨ (1 : Int) = -1) (HF1.out cn)
          obtain ⟨ov, hove⟩ : ∃ ov, ov = (rowS F 1 (mem K) i)[cn]! := ⟨_, rfl⟩
          rw [← hove] at e5 hov HST
          have hw : IntKind.i64.wrap (ov + 1) = ov + 1 := by rw [IntKind.wrap_i64]; omega
          have HVS : Hid (ov + 1 = ov + 1) := by show _ = _; omega
          clear hci hbi hcb hove
          go_wp2
          go_roundw
          case rel =>
            have st := own_store1 HOi.out cn (ov + 1)
            rw [HST.out, ← HVS.out] at st
            exact ⟨i + 1, by omega, by go_num, HCI.out.trans (Chg.of_grown st.2 (fun g' hg => by cases hg; omega)), HBi.out.setCell (p := ⟨w.heap.size + 1, cn, none⟩) (Nat.le_refl _) _, st.1⟩
          case measure => simp [intOf]; omega
        · obtain rfl : i = (mem K).length := by omega
          clear hci hbi
          go_wp2
          go_roundw
          case rel => exact ⟨k + 1, by omega, by go_num, HCm.out.trans HCI.out, HBi.out, by rw [HFS.out, ← rowS_full]; exact HOi.out⟩
          case measure => simp [intOf]; omega
    · obtain rfl : k = (mem N).length := by omega
      clear hch hb
      have HRF : Hid (wo.ownsRow (w.heap.size + 1) 3 1 (.slice (some ⟨w.heap.size + 1, 0, none⟩) 6 6) 6 (ints (row6 (fun c => cntL (keyG m) (mem N) c - cntL (doorG m) ((mem O).take 0) c)))) := by
        have h := HO.out
        rw [List.take_length] at h
        have e : row6 (fun c => cntL (keyG m) (mem N) c - cntL (doorG m) ((mem O).take 0) c) = row6 (fun c => cntL (keyG m) (mem N) c) := row6_congr fun c _ => by
          have : cntL (doorG m) ((mem O).take 0) c = 0 := by simp [cntL]
          omega
        show World.ownsRow _ _ _ _ _ _ _
        rw [e]; exact h
      have hzo : w.heap.size + 1 < wo.heap.size := by have := HCo.out.size; omega
      go_wp2_with fail
      refine (members_c O hO _).mono ?_
      rintro e w4 ⟨v4, rfl, ho4, hb4⟩
      have HMw4 := Lib.hid (Own.of ho4)
      obtain ⟨a4, c4, rfl, -, -⟩ := (Own.of ho4).ic
      have hzw4 : w.heap.size + 2 ≤ wo.heap.size := hzo
      have hzz4 := hb4.size
      have HBw4 : Hid (Below (w.heap.size + 1) (w.alloc (.cells #[.int .i64 m.size, .slice ad m.doors.length cd, .slice ak m.keys.length ck] 29)) w4) := HBo.out.trans (hb4.mono (by omega))
      have HRw4 := Lib.hid (own_below HRF.out hb4)
      clear ho4 hb4 HO HRF HBo HCo hzo
      obtain ⟨w3b, hw3b⟩ : ∃ w3b, w3b = wo := ⟨_, rfl⟩
      rw [← hw3b] at *
      clear hw3b
      go_wp2
      go_loopw [46] (fun i wr => ∃ k : Nat, k ≤ (mem O).length ∧ i = .int .i64 k ∧ Chg (w.heap.size + 1) (w.heap.size + 2) w4 wr ∧ Below (w.heap.size + 1) (w.alloc (.cells #[.int .i64 m.size, .slice ad m.doors.length cd, .slice ak m.keys.length ck] 29)) wr ∧ Hid (wr.ownsRow (w.heap.size + 1) 3 1 (.slice (some ⟨w.heap.size + 1, 0, none⟩) 6 6) 6 (ints (row6 (fun c => cntL (keyG m) (mem N) c - cntL (doorG m) ((mem O).take k) c))))) (fun i _ => (mem O).length - (intOf i).toNat)
      case atStart => exact ⟨0, Nat.zero_le _, rfl, Chg.of_below (Below.refl _ _), HBw4.out, HRw4.out⟩
      case round =>
        obtain ⟨wo, rfl⟩ : ∃ wo : World, wo = wr := ⟨_, rfl⟩
        obtain ⟨k, hk, rfl, hch, hb, HO⟩ := hrel
        have HBo := Lib.hid hb
        have HCo := Lib.hid hch
        have h40L := mem_len40z O
        by_cases hlt : k < (mem O).length
        · have hkI : (k : Int) < ((mem O).length : Int) := by omega
          obtain ⟨b, off, x, hax, HX, hbs, e0⟩ := (ic_of (HMw4.out.chg hch (.inr (by have := hzw4; omega)))).at k hlt
          cases hax
          obtain ⟨xn, hxe, hxb⟩ := mem_atZ hlt HX.out
          subst hxe
          have HXB := Lib.hid hxb
          have hxk : xn < m.doors.length := HOD.out xn hxb
          have hxI : (xn : Int) < (m.doors.length : Int) := by omega
          obtain ⟨b2, off2, y0, y1, y, hay, HY, hbs2, e1x, e1y, e1⟩ := (hd.later (below_box HBo.out (by omega))).at xn hxk
          subst hay
          obtain ⟨f1, f2, f3, f4, f5⟩ := door_facts OK.out hxk HY.out
          obtain ⟨K, rfl⟩ := Int.eq_ofNat_of_zero_le f4
          have hky : (0 : Int) ≤ K ∧ (K : Int) < 64 := ⟨f4, f5⟩
          have HG : Hid (doorG m xn = K) := by show _ = _; unfold doorG; rw [HY.out]; rfl
          clear f1 f2 f3 f4 f5
          have HFS : Hid (row6 (fun c => cntL (keyG m) (mem N) c - cntL (doorG m) ((mem O).take (k + 1)) c) = row6 (fun c => (fun c => cntL (keyG m) (mem N) c - cntL (doorG m) ((mem O).take k) c) c + (-1) * inL (mem K) c)) := row6_congr fun c hc => by
            have := cntL_step hlt HX.out HG.out hc
            dsimp only
            omega
          have HF1 : Hid (∀ c, -1000 ≤ (fun c => cntL (keyG m) (mem N) c - cntL (doorG m) ((mem O).take k) c) c ∧ (fun c => cntL (keyG m) (mem N) c - cntL (doorG m) ((mem O).take k) c) c ≤ 1000) := fun c => by
            have h1 := cntL_bound (keyG m) (mem N) c
            have h2 := mem_len40z N
            have h3 : True := trivial
            have h4 := cntL_bound (doorG m) ((mem O).take k) c; have h5 := mem_len40z O; have h6 : ((mem O).take k).length ≤ (mem O).length := by simp; omega
            dsimp only
            omega
          obtain ⟨F, hF⟩ : ∃ F, F = (fun c => cntL (keyG m) (mem N) c - cntL (doorG m) ((mem O).take k) c) := ⟨_, rfl⟩
          rw [← hF] at HFS HF1 HO
          obtain ⟨q0, q1, q2, z3⟩ := box3 HBo.out (by omega)
          clear hF hxb hch hb
          have h40K := mem_len40z K
          go_wp2_with fail
          refine (members_c K (by omega) _).mono ?_
          rintro e wm ⟨vm, rfl, hom, hbm⟩
          obtain ⟨am, cm, rfl, -, -⟩ := (Own.of hom).ic
          have hzm := hbm.size
          have hzo : w.heap.size + 1 < wo.heap.size := by have := HCo.out.size; omega
          have HMm := Lib.hid (Own.of hom)
          have HBm : Hid (Below (w.heap.size + 1) (w.alloc (.cells #[.int .i64 m.size, .slice (some ⟨b2, off2, none⟩) m.doors.length cd, .slice ak m.keys.length ck] 29)) wm) := HBo.out.trans ( (hbm.mono ((by first | omega | (simp; done) | (simp; omega) | (dsimp only; omega)))))
          have HCm : Hid (Chg (w.heap.size + 1) (w.heap.size + 2) w4 wm) := HCo.out.trans (Chg.of_below ( (hbm.mono ((by first | omega | (simp; done) | (simp; omega) | (dsimp only; omega))))))
          have HRm : Hid (wm.ownsRow (w.heap.size + 1) 3 1 (.slice (some ⟨w.heap.size + 1, 0, none⟩) 6 6) 6 (ints (rowS F (-1) (mem K) 0))) := by rw [rowS_zero]; exact own_below HO.out ( (hbm.mono ((by first | omega | (simp; done) | (simp; omega) | (dsimp only; omega)))))
          have HK6 : Hid (∀ j i, (mem K)[j]! = ((i : Nat) : Int) → j < (mem K).length → i < 6) := fun j i h hj => by
            obtain ⟨i', h1, h2⟩ := mem_atZ hj h
            have := bit_lt (n := 6) (by omega) h2
            omega
          clear e0 e1 hbm hom q0 q1 q2 e1x e1y
          go_wp2
          go_loopw [58] (fun c wr => ∃ i : Nat, i ≤ (mem K).length ∧ c = .int .i64 i ∧ Chg (w.heap.size + 1) (w.heap.size + 2) wm wr ∧ Below (w.heap.size + 1) (w.alloc (.cells #[.int .i64 m.size, .slice (some ⟨b2, off2, none⟩) m.doors.length cd, .slice ak m.keys.length ck] 29)) wr ∧ Hid (wr.ownsRow (w.heap.size + 1) 3 1 (.slice (some ⟨w.heap.size + 1, 0, none⟩) 6 6) 6 (ints (rowS F (-1) (mem K) i)))) (fun c _ => (mem K).length - (intOf c).toNat)
          case atStart => exact ⟨0, Nat.zero_le _, rfl, Chg.of_below (Below.refl _ _), HBm.out, HRm.out⟩
          case round =>
            obtain ⟨wi, rfl⟩ : ∃ wi : World, wi = wr := ⟨_, rfl⟩
            obtain ⟨i, hi, rfl, hci, hbi, HOi⟩ := hrel
            have HBi := Lib.hid hbi
            have HCI := Lib.hid hci
            by_cases hil : i < (mem K).length
            · have hiI : (i : Int) < ((mem K).length : Int) := by omega
              obtain ⟨b4, off4, c4, hac, HC, hbs4, e4⟩ := (ic_of (HMm.out.chg hci (.inr (by omega)))).at i hil
              cases hac
              obtain ⟨cn, hce, hcb⟩ := mem_atZ hil HC.out
              subst hce
              have hc6 := HK6.out i cn HC.out hil
              have hcI : (cn : Int) < 6 := by omega
              have e5 := own_intZ HOi.out cn hc6 (by simp)
              have f5 : wi.frozen? ⟨w.heap.size + 1, cn, none⟩ = false := HOi.out.frozenAt _
              have HST : Hid ((rowS F (-1) (mem K) i).set cn ((rowS F (-1) (mem K) i)[cn]! + (-1)) = rowS F (-1) (mem K) (i + 1)) := rowS_step hil (mem_nodup K) HC.out hc6
              have hov := rowS_bound (L := mem K) (j := i) hc6 (.inr rfl : ((-1) : Int) = 1 ∨ ((-1) : Int) = -1) (HF1.out cn)
              obtain ⟨ov, hove⟩ : ∃ ov, ov = (rowS F (-1) (mem K) i)[cn]! := ⟨_, rfl⟩
              rw [← hove] at e5 hov HST
              have hw : IntKind.i64.wrap (ov - 1) = ov - 1 := by rw [IntKind.wrap_i64]; omega
              have HVS : Hid (ov - 1 = ov + (-1)) := by show _ = _; omega
              clear hci hbi hcb hove
              go_wp2
              go_roundw
              case rel =>
                have st := own_store1 HOi.out cn (ov + (-1))
                rw [HST.out, ← HVS.out] at st
                exact ⟨i + 1, by omega, by go_num, HCI.out.trans (Chg.of_grown st.2 (fun g' hg => by cases hg; omega)), HBi.out.setCell (p := ⟨w.heap.size + 1, cn, none⟩) (Nat.le_refl _) _, st.1⟩
              case measure => simp [intOf]; omega
            · obtain rfl : i = (mem K).length := by omega
              clear hci hbi
              go_wp2
              go_roundw
              case rel => exact ⟨k + 1, by omega, by go_num, HCm.out.trans HCI.out, HBi.out, by rw [HFS.out, ← rowS_full]; exact HOi.out⟩
              case measure => simp [intOf]; omega
        · obtain rfl : k = (mem O).length := by omega
          clear hch hb
          have HRF : Hid (wo.ownsRow (w.heap.size + 1) 3 1 (.slice (some ⟨w.heap.size + 1, 0, none⟩) 6 6) 6 (ints (leftL m (nearN m O) (mem O)))) := by
            have h := HO.out
            rw [List.take_length, ← HLR.out, HN.out] at h
            exact h
          have HBf := Lib.hid (below_box HBo.out (by omega))
          clear HO
          go_wp2
          go_ret
          exact ⟨_, rfl, (Own.mono (Own.of HRF.out) (by omega) (Nat.le_refl _)).row, HBf.out⟩
end Go.Proofs.Ytbaahghfjmkeoaa
