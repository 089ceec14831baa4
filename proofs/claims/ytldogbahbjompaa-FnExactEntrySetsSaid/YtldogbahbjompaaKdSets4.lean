/- The reference's table of entry orders: spec.l5Table. -/
import Derived.Test.YtldogbahbjompaaKdTab5
import Derived.Test.YtldogbahbjompaaKdNext
import Derived.Test.YtldogbahbjompaaKdChg
import Derived.Deep.OwnRows
import Derived.Deep.DeepCutAuto
set_option linter.unusedVariables false
set_option linter.unusedSimpArgs false
namespace Go.KD
open Go.RowKit
theorem own_intT {w : World} {lo g n cap : Nat} {e : TypeId} {L : List Int} (h : w.ownsRow lo e 1 (.slice (some ⟨g, 0, none⟩) n cap) n (ints L)) (c : Nat) (hc : c < n) (hl : L.length = n) : w.cell? ⟨g, c, none⟩ = some (.int .i64 L[c]!) := by
  rw [h.cellAt c (by omega), ints, List.getElem?_map, List.getElem?_eq_getElem (by omega), getElem!_pos L c (by omega)]
  rfl
theorem ic_chgT {lo hi : Nat} {w w' : World} {b off : Nat} {l : List Int} (h : IC w (some ⟨b, off, none⟩) l) (hc : Chg lo hi w w') (hb : b < lo ∨ hi ≤ b) : IC w' (some ⟨b, off, none⟩) l := by
  intro k hk
  obtain ⟨b', off', e, hs, hcell⟩ := h k hk
  cases e
  exact ⟨b, off, rfl, Nat.lt_of_lt_of_le hs hc.size, by rw [hc.cell (p := ⟨b, off + k, none⟩) hs hb]; exact hcell⟩
theorem own_someT {w : World} {base : Nat} {e : TypeId} {size n : Nat} {v : Value} {xs : List Value} (h : w.ownsRow base e size v n xs) (hn : 0 < n) : ∃ g c, v = .slice (some ⟨g, 0, none⟩) n c ∧ n ≤ c ∧ c ≤ maxLen := by
  rcases h.2 with ⟨_, h0⟩ | ⟨g, cap, cur, hv, _, _, h1, h2, _⟩
  · omega
  · exact ⟨g, cap, hv, h1, h2⟩
theorem shl_at30T (y : Nat) (hy : y < 30) : ∃ p : Nat, Hid (p = 2 ^ y) ∧ IntKind.i64.wrap (2 ^ y) = (p : Int) ∧ p < 1073741824 := by
  refine ⟨2 ^ y, rfl, ?_, Nat.pow_lt_pow_right (n := 30) (by omega) hy⟩
  have h : 2 ^ y < 2 ^ 30 := Nat.pow_lt_pow_right (by omega) hy
  have e : ((2 ^ y : Nat) : Int) = 2 ^ y := by simp
  rw [← e]
  generalize 2 ^ y = q at h
  rw [IntKind.wrap_i64]; omega
end Go.KD
namespace Go.Proofs.Ytldogbahbjompaa
open Go.RowKit Go.KD
attribute [local go_sem] later_cell later_frozen
set_option maxRecDepth 100000 in
set_option maxHeartbeats 8000000 in
theorem l5Table_c (v : Value) (m : Mz) (w : World) (hm : MzAt w v m) (ok : MzOk m) :
    Calls Try.prog 78 #[v] w fun e w' => ∃ (g n : Nat) (T : List Int), e = .returned (.slice (some ⟨g, 0, none⟩) n n) ∧ T.length = n ∧ n ≤ 4096 ∧ T5 m n 0 T ∧ w'.ownsRow w.heap.size 3 1 (.slice (some ⟨g, 0, none⟩) n n) n (ints T) ∧ Below w.heap.size w w' := by
  have hM := hm
  obtain ⟨⟨ad, cd, ak, ck, rfl, hd, hk'⟩, nd, nk⟩ := hM
  obtain ⟨i0, ji, jz0, jz1, jz2⟩ := info_parts infoI
  obtain ⟨sn, hsn⟩ : ∃ sn : Nat, m.size = (sn : Int) := ⟨m.size.toNat, by have := ok.s1; omega⟩
  obtain ⟨dn, hdn⟩ : ∃ dn, dn = m.doors.length := ⟨_, rfl⟩
  obtain ⟨kn, hkn⟩ : ∃ kn, kn = m.keys.length := ⟨_, rfl⟩
  have hs1 : 1 ≤ sn := by have := ok.s1; omega
  have hs12 : sn ≤ 12 := by have := ok.s2; omega
  rw [hsn, ← hdn, ← hkn] at hm ⊢
  obtain ⟨p, HP, ep, hp⟩ := shl_at30T sn (by omega)
  have hp2 : 2 ≤ p := by have h1 : 2 ^ 1 ≤ 2 ^ sn := Nat.pow_le_pow_right (by omega) hs1; have := HP.out; omega
  have hp4 : p ≤ 4096 := by have h1 : 2 ^ sn ≤ 2 ^ 12 := Nat.pow_le_pow_right (by omega) hs12; have := HP.out; omega
  have HLN : Hid (2 ^ m.size.toNat = p) := by show _ = _; rw [hsn, HP.out]; rfl
  have OK := Lib.hid ok
  have HNX : Hid (∀ c W, InM m c → Below w.heap.size w W → Calls Try.prog 118 #[.agg #[.int .i64 (sn : Int), .slice ad dn cd, .slice ak kn ck], .int .i64 c] W fun e w' => ∃ a c', e = .returned (.slice a (mem (nexN m c)).length c') ∧ Own W.heap.size w'.heap.size w' 3 1 (.slice a (mem (nexN m c)).length c') (mem (nexN m c)).length (ints (mem (nexN m c))) ∧ Below W.heap.size W w') := by
    intro c W hc hW
    refine (l5Next_c _ m c W (hm.later hW) OK.out hc).mono ?_
    rintro e w' ⟨u, rfl, ho, hb⟩
    obtain ⟨a, c', rfl⟩ := own_slice ho
    exact ⟨a, c', rfl, Own.of ho, hb⟩
  have J2 := Lib.hid jz2
  clear hm ok hd hk' nd nk hsn hdn hkn
  go_enter Try.func78, Try.ntmps78
  have hpI : (1 : Int) < (p : Int) := by omega
  go_wp2_with (refine wpList_make_full _ rfl _ _ 23 rfl (w.heap.size + 1) 3 i0 (.int .i64 0) 1 Try.underlying23 ji jz0 jz1 .i64 .i64 _ _ p rfl rfl rfl rfl ?_ ?_ (by simp) ?_; (rw [J2.out]; omega); (unfold maxLen; omega); intro w1 hown hg; rw [madeI] at hown; simp only [World.size_alloc] at hown ⊢; have HO1 := Lib.hid hown; have HB1 : Hid (Below (w.heap.size + 1) (w.alloc (.cells #[.int .i64 (sn : Int), .slice ad dn cd, .slice ak kn ck] 29)) w1) := (Below.refl _ _).grown hg (by simp) (fun k h => by cases h); obtain ⟨q0, q1, q2, z1⟩ := box3 HB1.out (by omega); have o1 := own_intT HO1.out 1 (by omega) (by simp); have of1 := HO1.out.frozenAt 1; clear hown hg)
  have HT0 : Hid (T5 m 1 0 ((List.replicate p (0 : Int)).set 1 1)) := by
    refine T5.start OK.out (by rw [List.length_set, List.length_replicate, HLN.out]) (fun c hc => ?_)
    rw [List.length_set, List.length_replicate] at hc
    rw [set_at5 (by rw [List.length_replicate]; omega)]
    split
    · rfl
    · rw [getElem!_pos _ c (by rw [List.length_replicate]; exact hc), List.getElem_replicate]
  have st0 := own_store1 HO1.out 1 1
  have HO0 := Lib.hid st0.1
  have HB0 : Hid (Below (w.heap.size + 1) (w.alloc (.cells #[.int .i64 (sn : Int), .slice ad dn cd, .slice ak kn ck] 29)) (w1.setCell ⟨w.heap.size + 1, 1, none⟩ (.int .i64 1))) := HB1.out.setCell (p := ⟨w.heap.size + 1, 1, none⟩) (Nat.le_refl _) _
  clear st0 o1 of1 q0 q1 q2
  go_loopw [4] (fun cv wr => ∃ (k : Nat) (T : List Int), cv = .int .i64 k ∧ 1 ≤ k ∧ k ≤ p ∧ T.length = p ∧ Hid (T5 m k 0 T) ∧ Hid (wr.ownsRow (w.heap.size + 1) 3 1 (.slice (some ⟨w.heap.size + 1, 0, none⟩) p p) p (ints T)) ∧ Hid (Below (w.heap.size + 1) (w.alloc (.cells #[.int .i64 (sn : Int), .slice ad dn cd, .slice ak kn ck] 29)) wr)) (fun cv _ => p - (intOf cv).toNat)
  case atStart => exact ⟨1, _, rfl, Nat.le_refl _, by omega, by simp, HT0, HO0.out, HB0.out⟩
  case round =>
    clear HT0 HO0 HB0
    obtain ⟨wo, rfl⟩ : ∃ wo : World, wo = wr := ⟨_, rfl⟩
    obtain ⟨k, T, rfl, hk1, hk, hTl, HT, HO, HB⟩ := hrel
    obtain ⟨q0, q1, q2, z2⟩ := box3 HB.out (by omega)
    by_cases hlt : k < p
    · have hkI : (k : Int) < (p : Int) := by omega
      have e1 := own_intT HO.out k hlt hTl
      obtain ⟨x, hx⟩ : ∃ x, x = T[k]! := ⟨_, rfl⟩
      rw [← hx] at e1
      have hlo := HT.out.lo k (by omega)
      rw [← hx] at hlo
      have HHERE : Hid (0 < x ↔ EntS m k) := by rw [hx]; exact HT.out.here OK.out (by omega)
      have hg0 : w.heap.size + 1 < wo.heap.size := by
        rcases Nat.lt_or_ge (w.heap.size + 1) wo.heap.size with h | h
        · exact h
        · rw [World.cell?, Array.getElem?_eq_none h] at e1; cases e1
      by_cases hz : x = 0
      · have HN : Hid (T5 m (k + 1) 0 T) := HT.out.next OK.out (fun hE => by have := HHERE.out.2 hE; omega)
        rw [hz] at e1
        clear hx hz hlo HHERE
        go_wp2
        go_roundw
        case rel => exact ⟨k + 1, T, by go_num, by omega, by omega, hTl, HN, HO, HB⟩
        case measure => simp [intOf]; omega
      · have hE : EntS m k := HHERE.out.1 (by omega)
        have HE := Lib.hid hE
        have hk4 : k < 4096 := by omega
        have HX13 : Hid (x ≤ ((13 ^ popN k : Nat) : Int)) := by
          have h1 := HT.out.up k (by omega)
          rw [← hx] at h1
          have h2 := capT_le m k 0 hk4 hE.zero
          show _ ≤ _
          omega
        have hxmax : x ≤ 23298085122481 := by
          have h1 := HT.out.up k (by omega)
          rw [← hx] at h1
          have h2 := capT_max m k 0 hk4 hE.zero
          omega
        have hxp : 0 < x := by omega
        have hxb : (x == 0) = false := by simpa using hz
        have HC := HNX.out k wo (fun i hi => ent_size OK.out hE hi) (below_box HB.out (by omega))
        have h40 := mem_len40' (nexN m k)
        have HADD : Hid (∀ (i : Nat) (T : List Int), T5 m k i T → k < T.length → i < (mem (nexN m k)).length → ∃ y : Nat, (mem (nexN m k))[i]! = (y : Int) ∧ (nexN m k).testBit y = true ∧ y < 12 ∧ k ||| 2 ^ y < T.length ∧ k < k ||| 2 ^ y ∧ (k ||| 2 ^ y).testBit 0 = true ∧ (0 < T[k]! → T[k]! ≤ (13 ^ popN k : Nat) → T5 m k (i + 1) (T.set (k ||| 2 ^ y) (T[k ||| 2 ^ y]! + T[k]!)))) := fun i T h1 h2 h3 => h1.add OK.out HE.out h2 h3
        have HNEXT : Hid (∀ (i : Nat) (T : List Int), T5 m k i T → (mem (nexN m k)).length ≤ i → T5 m (k + 1) 0 T) := fun i T h1 h2 => h1.next OK.out (fun _ => h2)
        obtain ⟨NL, hNL⟩ : ∃ NL, NL = mem (nexN m k) := ⟨_, rfl⟩
        rw [← hNL] at HC h40
        have HADD2 : Hid (∀ (i : Nat) (T : List Int), T5 m k i T → k < T.length → i < NL.length → ∃ y : Nat, NL[i]! = (y : Int) ∧ y < 12 ∧ k ||| 2 ^ y < T.length ∧ k < k ||| 2 ^ y ∧ (k ||| 2 ^ y).testBit 0 = true ∧ (0 < T[k]! → T[k]! ≤ (13 ^ popN k : Nat) → T5 m k (i + 1) (T.set (k ||| 2 ^ y) (T[k ||| 2 ^ y]! + T[k]!)))) := by
          rw [hNL]
          intro i T h1 h2 h3
          obtain ⟨y, a1, a2, a3, a4, a5, a6, a7⟩ := HADD.out i T h1 h2 h3
          exact ⟨y, a1, a3, a4, a5, a6, a7⟩
        have HNEXT2 : Hid (∀ (i : Nat) (T : List Int), T5 m k i T → NL.length ≤ i → T5 m (k + 1) 0 T) := by rw [hNL]; exact HNEXT.out
        have HTX : Hid (T[k]! = x) := hx.symm
        obtain ⟨nl, hnl⟩ : ∃ nl, nl = NL.length := ⟨_, rfl⟩
        rw [← hnl] at HC h40
        have HNL := Lib.hid hnl
        have HCC := Lib.hid HC
        clear HC HADD HNEXT hNL hx hz hlo HHERE hE hnl
        go_wp2_with fail
        refine HCC.out.mono ?_
        rintro e w3 ⟨a3, c3, rfl, ho3, hb3⟩
        have HM3 := Lib.hid ho3
        have HB3 : Hid (Below (w.heap.size + 1) (w.alloc (.cells #[.int .i64 (sn : Int), .slice ad dn cd, .slice ak kn ck] 29)) w3) := HB.out.trans (hb3.mono (by omega))
        have HO3 : Hid (w3.ownsRow (w.heap.size + 1) 3 1 (.slice (some ⟨w.heap.size + 1, 0, none⟩) p p) p (ints T)) := own_below HO.out hb3
        have hz3 := hb3.size
        have HI3 : Hid (IC w3 a3 NL) := ic_of' ho3 HNL.out
        have HAB : Hid (∀ b off, a3 = some ⟨b, off, none⟩ → 0 < nl → w.heap.size + 2 ≤ b) := by
          rintro b off rfl hn
          obtain ⟨g5, c5, hv5, -, -⟩ := own_someT ho3.row hn
          have e5 : b = g5 := by
            have h5 := (Value.slice.inj hv5).1
            cases h5; rfl
          subst e5
          have h6 := (ho3.blocks b (by rw [hv5]; rfl)).1
          omega
        clear ho3 hb3 q0 q1 q2 e1 HCC HM3
        obtain ⟨q0, q1, q2, z3⟩ := box3 HB3.out (by omega)
        go_wp2
        go_loopw [6] (fun c wr => ∃ (i : Nat) (T : List Int), i ≤ nl ∧ c = .int .i64 i ∧ T.length = p ∧ Hid (T5 m k i T) ∧ Hid (T[k]! = x) ∧ Hid (Chg (w.heap.size + 1) (w.heap.size + 2) w3 wr) ∧ Hid (Below (w.heap.size + 1) (w.alloc (.cells #[.int .i64 (sn : Int), .slice ad dn cd, .slice ak kn ck] 29)) wr) ∧ Hid (wr.ownsRow (w.heap.size + 1) 3 1 (.slice (some ⟨w.heap.size + 1, 0, none⟩) p p) p (ints T))) (fun c _ => nl - (intOf c).toNat)
        case atStart => exact ⟨0, T, Nat.zero_le _, rfl, hTl, HT, HTX, Chg.of_below (Below.refl _ _), HB3.out, HO3.out⟩
        case round =>
          clear HT HTX HO3 HB3 HO HB q0 q1 q2 hTl
          clear T
          obtain ⟨wi, rfl⟩ : ∃ wi : World, wi = wr := ⟨_, rfl⟩
          obtain ⟨i, T, hi, rfl, hTl, HT, HTX, HCI, HBi, HOi⟩ := hrel
          obtain ⟨q0, q1, q2, z4⟩ := box3 HBi.out (by omega)
          by_cases hil : i < nl
          · have hiI : (i : Int) < (nl : Int) := by omega
            have hiL : i < NL.length := by rw [← HNL.out]; exact hil
            obtain ⟨y, a1, a3', a4, a5, a6, a7⟩ := HADD2.out i T HT.out (by omega) hiL
            rw [hTl] at a4
            obtain ⟨P, HPW, eP, hP⟩ := shl_at30T y (by omega)
            rw [← HPW.out] at a4 a5 a6 a7
            have eo : bits .or .i64 (k : Int) (P : Int) = ((k ||| P : Nat) : Int) := i64_or k P (by omega) (by omega)
            obtain ⟨c2, hc2⟩ : ∃ c2, c2 = k ||| P := ⟨_, rfl⟩
            rw [← hc2] at a4 a5 a6 a7 eo
            have hc2I : (c2 : Int) < (p : Int) := by omega
            obtain ⟨z, hz⟩ : ∃ z, z = T[c2]! := ⟨_, rfl⟩
            have hz0 := HT.out.lo c2 (by omega)
            have hzu := HT.out.up c2 (by omega)
            have hzm := capT_max m k i (c := c2) (by omega) a6
            rw [← hz] at hz0 hzu a7
            have hzx : z ≤ 23298085122481 := by omega
            have HT1 : Hid (T5 m k (i + 1) (T.set c2 (z + x))) := by
              have := a7 (by rw [HTX.out]; exact hxp) (by rw [HTX.out]; exact HX13.out)
              rwa [HTX.out] at this
            have HTX1 : Hid ((T.set c2 (z + x))[k]! = x) := by
              show _ = _
              rw [set_at5 (by omega), if_neg (by omega)]; exact HTX.out
            have e1 := own_intT HOi.out c2 a4 hTl
            rw [← hz] at e1
            have e2 := own_intT HOi.out k (by omega) hTl
            rw [HTX.out] at e2
            have f1 : wi.frozen? ⟨w.heap.size + 1, c2, none⟩ = false := HOi.out.frozenAt _
            obtain ⟨b5, o5, ⟨rfl⟩⟩ : ∃ b5 o5, a3 = some ⟨b5, o5, none⟩ := by
              obtain ⟨b, off, hbo, -, -⟩ := HI3.out i hiL
              exact ⟨b, off, hbo⟩
            have hb5 := HAB.out b5 o5 rfl (by omega)
            obtain ⟨b, off, x5, hbo, HX5, hbs, e0⟩ := (ic_chgT HI3.out HCI.out (.inr hb5)).at i hiL
            cases hbo
            have hy5 : x5 = (y : Int) := by rw [← HX5.out, a1]
            subst hy5
            have hy0 : (0 : Int) ≤ (y : Int) := by omega
            have HC2 := Lib.hid hc2
            clear a1 a7 hz hzu hzm hc2 HX5
            go_upto_region 11 with fail
            go_region
            all_goals go_wp2
            all_goals go_roundw
            case rel =>
              have st := own_store1 HOi.out c2 (z + x)
              have hbd : Below (wi.setCell ⟨w.heap.size + 1, c2, none⟩ (.int .i64 (z + x))).heap.size (wi.setCell ⟨w.heap.size + 1, c2, none⟩ (.int .i64 (z + x))) (wi.setCell ⟨w.heap.size + 1, c2, none⟩ (.int .i64 (z + x))).drew := (Below.refl _ _).drew
              have h6 : Below (w.heap.size + 1) (w.alloc (.cells #[.int .i64 (sn : Int), .slice ad dn cd, .slice ak kn ck] 29)) (wi.setCell ⟨w.heap.size + 1, c2, none⟩ (.int .i64 (z + x))) := HBi.out.setCell (p := ⟨w.heap.size + 1, c2, none⟩) (Nat.le_refl _) _
              exact ⟨i + 1, _, by omega, by go_num, by rw [List.length_set]; exact hTl, HT1, HTX1, (HCI.out.trans (Chg.of_grown st.2 (fun g' hg => by cases hg; omega))).trans (Chg.of_below hbd), h6.drew, own_below st.1 hbd⟩
            case measure => simp [intOf]; omega
          · obtain rfl : i = nl := by omega
            have HN : Hid (T5 m (k + 1) 0 T) := HNEXT2.out i T HT.out (by rw [← HNL.out]; exact Nat.le_refl _)
            go_wp2
            go_roundw
            case rel => exact ⟨k + 1, T, by go_num, by omega, by omega, hTl, HN, HOi, HBi⟩
            case measure => simp [intOf]; omega
    · obtain rfl : k = p := by omega
      go_wp2
      go_ret
      exact ⟨_, _, T, rfl, hTl, hp4, HT.out, (Own.mono (Own.of HO.out) (by omega) (Nat.le_refl _)).row, below_box HB.out (by omega)⟩
end Go.Proofs.Ytldogbahbjompaa
