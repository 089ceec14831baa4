/- Clutters: the reference's walks. -/
import Derived.Test.YtmilpahggceemaaKdClut0
import Derived.Test.YtmilpahggceemaaKdSteps2
import Derived.Test.YtmilpahggceemaaKdClose
import Derived.Test.YtmilpahggceemaaKdDel
import Derived.Deep.DeepCutAuto
set_option linter.unusedVariables false
set_option linter.unusedSimpArgs false
namespace Go.KD
open Go.RowKit
def natsI (l : List Nat) : List Int := l.map fun (n : Nat) => (n : Int)
@[simp] theorem natsI_len (l : List Nat) : (natsI l).length = l.length := by simp [natsI]
theorem natsI_at {l : List Nat} {i : Nat} (hi : i < l.length) : (natsI l)[i]! = ((l[i]! : Nat) : Int) := by
  rw [getElem!_pos (natsI l) i (by simpa using hi), getElem!_pos l i hi]; simp [natsI]
theorem natsI_snoc (l : List Nat) (n : Nat) : natsI (l ++ [n]) = natsI l ++ [(n : Int)] := by simp [natsI]
def orSK (k t : Nat) : List Nat := ((List.range k).flatMap fun k => (List.range 64).filter fun s => popN s == k) ++ (List.range t).filter fun s => popN s == k
theorem orSK_yes {k t : Nat} (h : popN t = k) : orSK k (t + 1) = orSK k t ++ [t] := by simp [orSK, List.range_succ, List.filter_append, h]
theorem orSK_no {k t : Nat} (h : popN t ≠ k) : orSK k (t + 1) = orSK k t := by simp [orSK, List.range_succ, List.filter_append, h]
theorem orSK_next (k : Nat) : orSK (k + 1) 0 = orSK k 64 := by simp [orSK, List.range_succ]
theorem orSK_len : ∀ k, k < 8 → ∀ t, t < 65 → (orSK k t).length ≤ 64 := by decide +kernel
theorem ordS_eq : orSK 7 0 = ordS := by simp [orSK, ordS]
theorem ordS_len : ordS.length = 64 := by decide +kernel
def lstP (is : Nat → Bool) (s : Nat) : Bool := is s && (List.range 6).all fun c => !(s.testBit c && is (s ^^^ 2 ^ c))
def lstJ (is : Nat → Bool) (s j : Nat) : Bool := is s && (List.range j).all fun c => !(s.testBit c && is (s ^^^ 2 ^ c))
theorem lstJ_step (is : Nat → Bool) (s j : Nat) : lstJ is s (j + 1) = (lstJ is s j && !(s.testBit j && is (s ^^^ 2 ^ j))) := by simp [lstJ, List.range_succ, List.all_append, Bool.and_assoc]
def lstK (is : Nat → Bool) (n : Nat) : List Nat := (ordS.take n).filter (lstP is)
theorem lstK_yes {is : Nat → Bool} {n : Nat} (hn : n < 64) (h : lstP is ordS[n]! = true) : lstK is (n + 1) = lstK is n ++ [ordS[n]!] := by
  unfold lstK
  rw [take_snoc (by rw [ordS_len]; exact hn), List.filter_append, List.filter_cons, h]
  simp
theorem lstK_no {is : Nat → Bool} {n : Nat} (hn : n < 64) (h : lstP is ordS[n]! = false) : lstK is (n + 1) = lstK is n := by
  unfold lstK
  rw [take_snoc (by rw [ordS_len]; exact hn), List.filter_append, List.filter_cons, h]
  simp
theorem lstK_len (is : Nat → Bool) (n : Nat) : (lstK is n).length ≤ n := Nat.le_trans (List.length_filter_le _ _) (List.length_take_le _ _)
theorem lstK_all (is : Nat → Bool) : lstK is 64 = lstL is := by
  unfold lstK lstL
  rw [List.take_of_length_le (by rw [ordS_len]; omega)]
  rfl
theorem lstL_len (is : Nat → Bool) : (lstL is).length ≤ 64 := by rw [← lstK_all]; exact lstK_len is 64
theorem ord_at {n : Nat} (hn : n < 64) : ordS[n]! < 64 := by
  rw [getElem!_pos ordS n (by rw [ordS_len]; exact hn)]; exact ordS_lt _ (List.getElem_mem _)
/-- Sets of a list as the reference asks of a clutter. -/
def beforeS (a b : Nat) : Bool := if popN a ≠ popN b then decide (popN a < popN b) else decide (a < b)
theorem beforeS_key : ∀ a, a < 64 → ∀ b, b < 64 → beforeS a b = decide (keyS a < keyS b) := by decide +kernel
def meetN (l : List Nat) (s : Nat) : Bool := l.all fun t => !(t &&& s == 0)
end Go.KD
namespace Go.Proofs.Ytmilpahggceemaa
open Go.RowKit Go.KD
attribute [local go_sem] later_cell later_frozen
set_option maxRecDepth 100000 in
set_option maxHeartbeats 4000000 in
theorem l6Order_c (w : World) : Calls Try.prog 254 #[] w fun e w' => ∃ u, e = .returned u ∧ w'.ownsRow w.heap.size 3 1 u 64 (ints (natsI ordS)) ∧ Below w.heap.size w w' := by
  obtain ⟨i0, ji, jz0, jz1, jz2⟩ := info_parts infoI
  go_enter Try.func254, Try.ntmps254
  go_wp2
  go_loopw [1, 2] (fun u k wr => ∃ kk : Nat, k = .int .i64 kk ∧ kk ≤ 7 ∧ Hid (wr.ownsRow w.heap.size 3 1 u (orSK kk 0).length (ints (natsI (orSK kk 0)))) ∧ Below w.heap.size w wr) (fun _ k _ => 7 - (intOf k).toNat)
  case atStart => exact ⟨0, rfl, by omega, (by have := World.ownsRow_lit (base := w.heap.size) (e := 3) (size := 1) w #[] 0 (Nat.le_refl _) (by unfold maxLen; omega) rfl; exact this), (Below.refl _ _).alloc (Nat.le_refl _) _⟩
  case round =>
    obtain ⟨wo, rfl⟩ : ∃ wo : World, wo = wr := ⟨_, rfl⟩
    obtain ⟨kk, rfl, hk, HO, hb⟩ := hrel
    have HB := Lib.hid hb; clear hb
    by_cases hlt : kk < 7
    · have hkI : (kk : Int) ≤ 6 := by omega
      go_wp2
      go_loopw [1, 3] (fun u t wr => ∃ tt : Nat, t = .int .i64 tt ∧ tt ≤ 64 ∧ Hid (wr.ownsRow w.heap.size 3 1 u (orSK kk tt).length (ints (natsI (orSK kk tt)))) ∧ Below w.heap.size w wr) (fun _ t _ => 64 - (intOf t).toNat)
      case atStart => exact ⟨0, rfl, by omega, HO, HB.out⟩
      case round =>
        clear HO HB
        obtain ⟨wi, rfl⟩ : ∃ wi : World, wi = wr := ⟨_, rfl⟩
        obtain ⟨tt, rfl, ht, HO, hb⟩ := hrel
        have HB := Lib.hid hb; clear hb
        have hz := HB.out.size
        obtain ⟨aM, cM, rfl⟩ := own_slice HO.out
        by_cases hlt2 : tt < 64
        · have htI : (tt : Int) < 64 := by omega
          have hlen := orSK_len kk (by omega) tt (by omega)
          go_wp2_with fail
          refine (l2Many_c tt hlt2 _).mono ?_
          rintro e w2 ⟨rfl, rfl⟩
          by_cases hp : popN tt = kk
          · have hpe : popc tt = (kk : Int) := by unfold popc; omega
            have HP := Lib.hid (orSK_yes hp)
            rw [hpe]
            clear hp hpe
            go_wp2_with (at_builtin; refine wpList_append_own _ rfl _ _ 24 rfl w.heap.size 3 i0 (.int .i64 0) 1 8 Try.underlying24 ji jz0 jz1 jz2 rfl (by decide) _ _ _ rfl (HO.out.alloc _) ⟨wi.heap.size, 0, none⟩ 1 1 [.int .i64 tt] rfl rfl ?_ ?_ ?_ ?_ ?_ ?_; (exact cell_one_new _ _ _); (simp [Value.oneCell']); (unfold maxLen; omega); omega; (simp; omega); intro v' w3 hown' hgrow _)
            go_roundw
            case rel => exact ⟨tt + 1, by go_num, by omega, by rw [HP.out, natsI_snoc, ints_snoc, List.length_append]; exact hown', (HB.out.alloc hz _).grown hgrow (by simp; omega) (fun g hg => own_block_lo HO.out hg)⟩
            case measure => simp [intOf]; omega
          · have hpe : popc tt ≠ (kk : Int) := by unfold popc; omega
            have HP := Lib.hid (orSK_no hp)
            obtain ⟨pv, hpv⟩ : ∃ pv, pv = popc tt := ⟨_, rfl⟩
            rw [← hpv] at hpe ⊢
            clear hp hpv
            go_wp2
            go_roundw
            case rel => exact ⟨tt + 1, by go_num, by omega, by rw [HP.out]; exact HO, HB.out⟩
            case measure => simp [intOf]; omega
        · obtain rfl : tt = 64 := by omega
          go_wp2
          go_roundw
          case rel => exact ⟨kk + 1, by go_num, by omega, by rw [orSK_next]; exact HO, HB.out⟩
          case measure => simp [intOf]; omega
    · obtain rfl : kk = 7 := by omega
      obtain ⟨aM, cM, rfl⟩ := own_slice HO.out
      go_wp2
      go_ret
      refine ⟨_, rfl, ?_, HB.out⟩
      have := HO.out
      rw [ordS_eq, ordS_len] at this
      rw [← ordS_len] at this ⊢
      exact this
set_option maxRecDepth 100000 in
set_option maxHeartbeats 8000000 in
theorem l6Least_c (g c : Nat) (is : Nat → Bool) (w : World) (hg : g < w.heap.size) (hB : ∀ k, k < 64 → w.cell? ⟨g, k, none⟩ = some (.bool (is k))) : Calls Try.prog 128 #[.slice (some ⟨g, 0, none⟩) 64 c] w fun e w' =>
    ∃ u, e = .returned u ∧ w'.ownsRow w.heap.size 3 1 u (lstL is).length (ints (natsI (lstL is))) ∧ Below w.heap.size w w' := by
  obtain ⟨i0, ji, jz0, jz1, jz2⟩ := info_parts infoI
  have HBI := Lib.hid hB; clear hB
  go_enter Try.func128, Try.ntmps128
  go_wp2_with fail
  refine (l6Order_c _).mono ?_
  rintro e w1 ⟨u1, rfl, ho1, hb1⟩
  have HO0 : Hid (w1.ownsRow w.heap.size 3 1 (.slice (some ⟨w.heap.size, 0, none⟩) 0 0) 0 (ints [])) := by
    have := World.ownsRow_lit (base := w.heap.size) (e := 3) (size := 1) w #[] 0 (Nat.le_refl _) (by unfold maxLen; omega) rfl
    exact own_below this hb1
  have HB1 : Hid (Below w.heap.size w w1) := ((Below.refl _ _).alloc (Nat.le_refl _) _).trans (hb1.mono (by simp))
  obtain ⟨g1, c1, rfl, hc1, hm1⟩ := own_someD ho1 (by omega)
  have HI1 : Hid (IC w1 (some ⟨g1, 0, none⟩) (natsI ordS)) := ic_of' (Own.of ho1) (by rw [natsI_len, ordS_len])
  have hg1 := own_block_lo ho1 (g := g1) rfl
  have hg1z := (Own.of ho1).top g1 rfl
  simp only [World.size_alloc] at hg1
  clear ho1 hb1
  go_wp2
  go_loopw [3, 5] (fun u i wr => ∃ k : Nat, i = .int .i64 k ∧ k ≤ 64 ∧ Hid (Own w.heap.size wr.heap.size wr 3 1 u (lstK is k).length (ints (natsI (lstK is k))) ∧ (∀ b, u.ownBlock = some b → b ≠ g1) ∧ IC wr (some ⟨g1, 0, none⟩) (natsI ordS)) ∧ Below w.heap.size w wr) (fun _ i _ => 64 - (intOf i).toNat)
  case atStart => exact ⟨0, rfl, by omega, (⟨Own.of HO0.out, fun b hb => (by have h1 : w.heap.size = b := (by simpa [Value.ownBlock] using hb); omega), HI1.out⟩ : _ ∧ _ ∧ _), HB1.out⟩
  case round =>
    clear HO0 HB1 HI1 hg1z
    obtain ⟨wo, rfl⟩ : ∃ wo : World, wo = wr := ⟨_, rfl⟩
    obtain ⟨k, rfl, hk, HQ, hb⟩ := hrel
    have HB := Lib.hid hb; clear hb
    have hzo := HB.out.size
    obtain ⟨aM, cM, rfl⟩ := own_slice HQ.out.1.row
    by_cases hlt : k < 64
    · have hkI : (k : Int) < 64 := by omega
      have hos := ord_at hlt
      obtain ⟨b, off, x, ha, HX, hbs, e0⟩ := HQ.out.2.2.at k (by rw [natsI_len, ordS_len]; exact hlt)
      cases ha
      rw [natsI_at (by rw [ordS_len]; exact hlt)] at HX
      obtain ⟨s, hs⟩ : ∃ s, s = ordS[k]! := ⟨_, rfl⟩
      rw [← hs] at hos HX
      have hx := HX.out
      subst hx
      have HS := Lib.hid hs
      clear hs HX
      have hsI : (s : Int) < 64 := by omega
      have hs0 : (0 : Int) ≤ (s : Int) := by omega
      have e1 : wo.cell? ⟨g, s, none⟩ = some (.bool (is s)) := (HB.out.cell (p := ⟨g, s, none⟩) hg).trans (HBI.out s hos)
      rw [Nat.zero_add] at e0
      have hlen := lstK_len is k
      obtain ⟨b0, hb0⟩ : ∃ b0, b0 = is s := ⟨_, rfl⟩
      rw [← hb0] at e1
      have HB0 := Lib.hid hb0
      clear hb0
      go_wp2
      go_loopw [6, 7] (fun l c wr => ∃ j : Nat, c = .int .i64 j ∧ j ≤ 6 ∧ l = .bool (lstJ is s j) ∧ ∃ nq, wr = wo.drewN nq) (fun _ c _ => 6 - (intOf c).toNat)
      case atStart => exact ⟨0, rfl, by omega, by rw [HB0.out]; simp [lstJ], 0, rfl⟩
      case round =>
        obtain ⟨j, rfl, hj, rfl, nq, rfl⟩ := hrel
        by_cases hj6 : j < 6
        · have hjI : (j : Int) < 6 := by omega
          have hj63 : (j : Int) < 64 := by omega
          obtain ⟨p, HP, ep, hp⟩ := shl_at j (by omega)
          obtain ⟨y, HY, ey⟩ := shr_at s j
          have hy : y < 1099511627776 := by
            have := HY.out; rw [Nat.shiftRight_eq_div_pow] at this; have := Nat.div_le_self s (2 ^ j); omega
          have eb := and1 hy
          have hb1 := bit_shr s j
          rw [← HY.out] at hb1
          rw [hb1] at eb
          clear hb1 hy
          have hp64 : p < 64 := by rw [HP.out]; exact Nat.pow_lt_pow_right (n := 6) (by omega) hj6
          have ex : bits .xor .i64 (s : Int) (p : Int) = ((s ^^^ p : Nat) : Int) := i64_xor s p (by omega) (by omega)
          have hsx : s ^^^ p < 64 := Nat.xor_lt_two_pow (n := 6) hos hp64
          have HST : Hid (lstJ is s (j + 1) = (lstJ is s j && !(s.testBit j && is (s ^^^ p)))) := by rw [HP.out]; exact lstJ_step is s j
          obtain ⟨sx, hsxe⟩ : ∃ sx, sx = s ^^^ p := ⟨_, rfl⟩
          rw [← hsxe] at ex hsx HST
          clear hsxe
          have hsxI : (sx : Int) < 64 := by omega
          have hsx0 : (0 : Int) ≤ (sx : Int) := by omega
          have e2 : wo.cell? ⟨g, sx, none⟩ = some (.bool (is sx)) := (HB.out.cell (p := ⟨g, sx, none⟩) hg).trans (HBI.out sx hsx)
          obtain ⟨b2, hb2⟩ : ∃ b2, b2 = is sx := ⟨_, rfl⟩
          rw [← hb2] at e2 HST
          clear hb2
          obtain ⟨pb, hpb⟩ : ∃ pb, pb = s.testBit j := ⟨_, rfl⟩
          rw [← hpb] at eb HST
          clear hpb
          obtain ⟨lj, hlj⟩ : ∃ lj, lj = lstJ is s j := ⟨_, rfl⟩
          rw [← hlj] at HST ⊢
          clear hlj
          cases pb
          case false =>
            simp only [Bool.false_eq_true, if_false] at eb
            go_wp2
            go_quiet (fail)
            go_wp2
            go_roundw
            case rel => exact ⟨j + 1, by go_num, by omega, by rw [HST.out]; simp, _, rfl⟩
            case measure => simp [intOf]; omega
          case true =>
            simp only [if_true] at eb
            cases b2
            case false =>
              go_wp2
              go_quiet (fail)
              go_wp2
              go_roundw
              case rel => exact ⟨j + 1, by go_num, by omega, by rw [HST.out]; simp, _, rfl⟩
              case measure => simp [intOf]; omega
            case true =>
              go_wp2
              go_quiet (fail)
              go_wp2
              go_roundw
              case rel => exact ⟨j + 1, by go_num, by omega, by rw [HST.out]; simp, _, rfl⟩
              case measure => simp [intOf]; omega
        · obtain rfl : j = 6 := by omega
          have HLP : Hid (lstP is ordS[k]! = lstJ is s 6) := by show _ = _; rw [← HS.out]; rfl
          obtain ⟨lj, hlj⟩ : ∃ lj, lj = lstJ is s 6 := ⟨_, rfl⟩
          rw [← hlj] at HLP ⊢
          clear hlj
          cases lj
          case false =>
            have HN := Lib.hid (lstK_no hlt HLP.out)
            go_wp2
            go_roundw
            case rel => exact ⟨k + 1, by go_num, by omega, by rw [HN.out]; exact ⟨⟨(own_below HQ.out.1.row (below_drewN (Below.refl _ _) _)), HQ.out.1.top⟩, HQ.out.2.1, HQ.out.2.2.later (below_drewN (Below.refl _ _) _)⟩, below_drewN HB.out _⟩
            case measure => simp [intOf]; omega
          case true =>
            have HN := Lib.hid (lstK_yes hlt HLP.out)
            rw [← HS.out] at HN
            have HR : Hid ((wo.drewN nq).ownsRow w.heap.size 3 1 (.slice aM (lstK is k).length cM) (lstK is k).length (ints (natsI (lstK is k)))) := own_below HQ.out.1.row (below_drewN (Below.refl _ _) _)
            have e3 : (wo.drewN nq).cell? ⟨g1, k, none⟩ = some (.int .i64 s) := e0
            go_wp2_with (at_builtin; refine wpList_append_lies _ rfl _ _ 24 rfl w.heap.size 3 i0 (.int .i64 0) 1 8 Try.underlying24 ji jz0 jz1 jz2 rfl (by decide) (.slice aM (lstK is k).length cM) _ _ rfl (HR.out.alloc _) ⟨(wo.drewN nq).heap.size, 0, none⟩ 1 1 [.int .i64 s] rfl rfl ?_ ?_ (by omega) ?_ ?_ ?_ ((wo.drewN nq).heap.size + 1) ?_ ?_; (exact cell_one_new _ _ _); (simp [Value.oneCell']); (unfold maxLen; omega); omega; (show w.heap.size ≤ ((wo.drewN nq).alloc _).heap.size; have : (wo.drewN nq).heap.size = wo.heap.size := rfl; simp; omega); (simp); intro g5 c5 w5 hown5 hgrow5 hat5 hlt5)
            have hz5 : (wo.drewN nq).heap.size = wo.heap.size := rfl
            have HF : Hid (Own w.heap.size w5.heap.size w5 3 1 (.slice (some ⟨g5, 0, none⟩) ((lstK is k).length + 1) c5) ((lstK is k).length + 1) (ints (natsI (lstK is k)) ++ [.int .i64 s]) ∧ (∀ b, (Value.slice (some ⟨g5, 0, none⟩) ((lstK is k).length + 1) c5).ownBlock = some b → b ≠ g1) ∧ IC w5 (some ⟨g1, 0, none⟩) (natsI ordS)) := by
              refine ⟨Own.of hown5, fun b hb => ?_, ic_grown2D ((HQ.out.2.2.later (below_drewN (Below.refl _ _) nq)).later ((Below.refl _ _).alloc (Nat.le_refl _) _)) hgrow5 (fun b hb e => ?_)⟩
              · have : g5 = b := by simpa [Value.ownBlock] using hb
                subst this
                rcases hat5 with h | h
                · exact HQ.out.2.1 _ h
                · omega
              · have : g1 = b := by simpa [Value.ownBlock] using hb
                subst this
                exact HQ.out.2.1 _ e rfl
            have HBF : Hid (Below w.heap.size w w5) := ((below_drewN HB.out nq).alloc (by show w.heap.size ≤ wo.heap.size; exact hzo) _).grown hgrow5 (by simp; omega) (fun b hb => own_block_lo HR.out hb)
            clear hown5 hgrow5 hat5
            go_wp2
            go_roundw
            case rel => exact ⟨k + 1, by go_num, by omega, by rw [HN.out, natsI_snoc, ints_snoc, List.length_append]; exact HF.out, HBF.out⟩
            case measure => simp [intOf]; omega
    · obtain rfl : k = 64 := by omega
      go_wp2
      go_ret
      refine ⟨_, rfl, ?_, HB.out⟩
      have := HQ.out.1.row
      rw [lstK_all] at this
      rw [lstK_all]
      exact this
end Go.Proofs.Ytmilpahggceemaa
