/- Contracts of SwapFilling. -/
import Derived.Test.YtmapnpgjbahabaaKdFill
import Derived.Test.YtmapnpgjbahabaaKdChg
import Derived.RegionTactic
import Derived.ChangeAlike
set_option linter.unusedVariables false
set_option linter.unusedSimpArgs false
namespace Go.KD
open Go.RowKit
def swapL (f : List Int) (i k : Nat) : List Int := (f.set i f[k]!).set k f[i]!
def placeN (x : Nat) (a : Int) : Nat := (idxP (eqP a) (mem x)).toNat
noncomputable def pSwapFilling (m : Mz) (set : Int) (f : List Int) (a b : Int) : List Int × Bool :=
  if askB m set && fillB m set f && !(a == b) && hasI (mem set.toNat) a && hasI (mem set.toNat) b then (swapL f (placeN set.toNat a) (placeN set.toNat b), true) else ([], false)
@[simp] theorem swapL_len (f : List Int) (i k : Nat) : (swapL f i k).length = f.length := by simp [swapL]
theorem pSwapFilling_len (m : Mz) (set : Int) (f : List Int) (a b : Int) : (pSwapFilling m set f a b).1.length ≤ 1000000 := by
  unfold pSwapFilling; split
  · rename_i h
    simp only [Bool.and_eq_true, fillB, decide_eq_true_eq] at h
    have := popc_le set.toNat
    simp only [swapL_len]; omega
  · simp
theorem memK6 {x : Nat} (hx : x < 64) : memK x 6 = mem x := by
  rw [mem_eq]
  have h0 : x >>> 6 = 0 := by rw [Nat.shiftRight_eq_div_pow]; omega
  exact (memK_end h0 34).symm
theorem idx_has {l : List Int} {a : Int} (h : hasI l a = true) : ∃ i, i < l.length ∧ idxP (eqP a) l = (i : Int) ∧ l[i]! = a ∧ ∀ j, j < i → l[j]! ≠ a := by
  rw [hasI_iff] at h
  cases hf : l.findIdx? (eqP a) with
  | none =>
    rw [List.findIdx?_eq_none_iff] at hf
    have := hf a h
    simp [eqP] at this
  | some k =>
    obtain ⟨hk, h1, h2⟩ := List.findIdx?_eq_some_iff_getElem.1 hf
    refine ⟨k, hk, by unfold idxP; rw [hf], ?_, fun j hj => ?_⟩
    · rw [getElem!_pos l k hk]; simpa [eqP] using h1
    · rw [getElem!_pos l j (by omega)]; have := h2 j hj; simpa [eqP] using this
theorem idx_not {l : List Int} {a : Int} (h : hasI l a = false) : idxP (eqP a) l = -1 := by
  refine idxP_none fun j hj => ?_
  cases he : eqP a l[j]! with
  | false => rfl
  | true => rw [hasI_at hj (by simpa [eqP] using he)] at h; cases h
end Go.KD
namespace Go.Proofs.Ytmapnpgjbahabaa
open Go.RowKit Go.KD
attribute [local go_sem] later_cell later_frozen
set_option maxRecDepth 100000 in
set_option maxHeartbeats 1000000 in
theorem l2Colours_c (x : Nat) (hx : x < 64) (w : World) : Calls Try.prog 65 #[.int .i64 x] w fun e w' =>
    ∃ v, e = .returned v ∧ w'.ownsRow w.heap.size 3 1 v (mem x).length (ints (mem x)) ∧ Below w.heap.size w w' := by
  obtain ⟨i0, hi, hz0, hz1, hz2⟩ := info_parts infoI
  go_enter Try.func65, Try.ntmps65
  go_wp2
  go_loopw [3, 4] (fun v c wr => ∃ k : Nat, k ≤ 6 ∧ c = .int .i64 k ∧ Below w.heap.size w wr ∧ Hid (wr.ownsRow w.heap.size 3 1 v (memK x k).length (ints (memK x k)))) (fun _ c _ => 6 - (intOf c).toNat)
  case atStart => exact ⟨0, by omega, rfl, (Below.refl _ _).alloc (Nat.le_refl _) _, World.ownsRow_lit _ _ _ (Nat.le_refl _) (by unfold maxLen; omega) (by rfl)⟩
  case round =>
    obtain ⟨k, hk, rfl, hb, HO⟩ := hrel
    have hk0 : (0 : Int) ≤ (k : Int) := by omega
    have hk1 : (k : Int) ≤ 63 := by omega
    by_cases h6 : k < 6
    · obtain ⟨y, HY, ey⟩ := shr_at x k
      have hy : y < 1099511627776 := by
        have := HY.out; rw [Nat.shiftRight_eq_div_pow] at *; have := Nat.div_le_self x (2 ^ k); omega
      have HA := Lib.hid (and1 hy)
      have HBB := Lib.hid (bit_shr x k)
      clear hy
      cases hbit : x.testBit k
      · have ea : bits .and .i64 (y : Int) 1 = 0 := by rw [HA.out, HY.out, HBB.out, hbit]; rfl
        have HBI := Lib.hid hbit; clear hbit
        go_wp2
        go_roundw
        case rel => exact ⟨k + 1, by omega, by go_num, hb, by rw [memK_no HBI.out]; exact HO⟩
        case measure => simp [intOf]; omega
      · have ea : bits .and .i64 (y : Int) 1 = 1 := by rw [HA.out, HY.out, HBB.out, hbit]; rfl
        have HBI := Lib.hid hbit; clear hbit
        have hz := hb.size
        have hlen := memK_len x k
        go_wp2_with (at_builtin; refine wpList_append_own _ rfl _ _ 23 rfl w.heap.size 3 i0 (.int .i64 0) 1 8 Try.underlying23 hi hz0 hz1 hz2 rfl (by decide) _ _ _ rfl (HO.out.alloc _) ⟨wr.heap.size, 0, none⟩ 1 1 [.int .i64 k] rfl rfl ?_ ?_ ?_ ?_ ?_ ?_; (exact cell_one_new _ _ _); (simp [Value.oneCell']); (unfold maxLen; omega); omega; (simp; omega); intro v' w1 hown' hgrow _)
        go_roundw
        case rel => exact ⟨k + 1, by omega, by go_num, (hb.alloc hz _).grown hgrow (by simp; omega) (fun g hg => own_block_lo HO.out hg), by rw [memK_yes HBI.out, ints_snoc, List.length_append]; exact hown'⟩
        case measure => simp [intOf]; omega
    · obtain rfl : k = 6 := by omega
      have HM := Lib.hid (memK6 hx)
      go_wp2
      go_ret
      exact ⟨_, rfl, by rw [← HM.out]; exact HO.out, hb⟩
set_option maxHeartbeats 1000000 in
theorem l1Own_c (a : Option Addr) (cap n : Nat) (l : List Int) (w : World) (hn : n = l.length) (hA : IC w a l) (hl : n ≤ 1048576) : Calls Try.prog 84 #[.slice a n cap] w fun e w' =>
    ∃ v, e = .returned v ∧ w'.ownsRow w.heap.size 3 1 v n (ints l) ∧ Below w.heap.size w w' := by
  obtain ⟨i0, hi, hz0, hz1, hz2⟩ := info_parts infoI
  have HN := Lib.hid hn; clear hn
  cases a with
  | none =>
    have h0 : l = [] := by
      cases l with
      | nil => rfl
      | cons x l => obtain ⟨b, off, h, _⟩ := hA 0 (by simp); cases h
    subst h0
    have h00 : n = 0 := HN.out
    subst h00
    go_enter Try.func84, Try.ntmps84
    go_wp2
    go_ret
    exact ⟨_, rfl, World.ownsRow_lit w #[] 0 (Nat.le_refl _) (by unfold maxLen; omega) rfl, (Below.refl _ _).alloc (Nat.le_refl _) _⟩
  | some ad =>
    have hnews : Hid (∀ j u, (ints l)[j]? = some u → w.cell? (ad.add j) = some u) := by
      intro j u hu
      have hj : j < l.length := by
        rcases Nat.lt_or_ge j l.length with h | h
        · exact h
        · rw [List.getElem?_eq_none (by simpa using h)] at hu; cases hu
      obtain ⟨b, off, hb, hbs, hc⟩ := hA j hj
      cases hb
      rw [add_at rfl, hc, ← hu, ints, List.getElem?_map, List.getElem?_eq_getElem hj, getElem!_pos l j hj]
      rfl
    have hlt : Hid (∀ j u, (ints l)[j]? = some u → ad.block < w.heap.size) := fun j u hu => World.block_lt_of_cell? w (ad.add j) (hnews.out j u hu) |> fun h => by unfold Addr.add at h; split at h <;> exact h
    go_enter Try.func84, Try.ntmps84
    go_wp2_with (at_builtin; refine wpList_append_own _ rfl _ _ 23 rfl w.heap.size 3 i0 (.int .i64 0) 1 8 Try.underlying23 hi hz0 hz1 hz2 rfl (by decide) _ _ _ rfl (World.ownsRow_lit w #[] 0 (Nat.le_refl _) (by unfold maxLen; omega) rfl) ad n cap (ints l) rfl ?_ ?_ ?_ ?_ ?_ ?_ ?_; (rw [length_ints, HN.out]; omega); (intro j u hu; rw [World.cell?_alloc_lt _ _ _ (by have := hlt.out j u hu; unfold Addr.add; split <;> exact this)]; exact hnews.out j u hu); (intro u hu; simp only [ints, List.mem_map] at hu; obtain ⟨x, _, rfl⟩ := hu; rfl); (unfold maxLen; omega); omega; (simp); intro v' w1 hown' hgrow _)
    go_ret
    refine ⟨_, rfl, by simpa using hown', ((Below.refl _ _).alloc (Nat.le_refl _) _).grown hgrow (by simp) (fun g hg => by cases hg; exact Nat.le_refl _)⟩
theorem l9Place_c (a : Option Addr) (cap n i : Nat) (l : List Int) (x : Int) (w : World) (hn : n = l.length) (hA : IC w a l) (hl : n ≤ 1048576) (hi : i < n) (hx : l[i]! = x) (hj : ∀ j, j < i → l[j]! ≠ x) : Calls Try.prog 85 #[.slice a n cap, .int .i64 x] w fun e w' => e = .returned (.int .i64 i) ∧ w = w' := by
  have HN := Lib.hid hn; clear hn
  have HX := Lib.hid hx; clear hx
  have HJ := Lib.hid hj; clear hj
  go_enter Try.func85, Try.ntmps85
  go_wp2
  go_loop [5] (fun c => ∃ k : Nat, k ≤ i ∧ c = .int .i64 k) (fun c => i - (intOf c).toNat)
  case atStart => exact ⟨0, Nat.zero_le _, rfl⟩
  case round =>
    obtain ⟨k, hk, rfl⟩ := hrel
    obtain ⟨b, off, y, rfl, HY, hbs, e0⟩ := hA.at k (by have := HN.out; omega)
    have hkn : (k : Int) < (n : Int) := by omega
    by_cases h : k < i
    · have g : (y != x) = true := by have := HJ.out k h; rw [HY.out] at this; simpa using this
      go_wp2
      go_round
      case rel => exact ⟨k + 1, by omega, by go_num⟩
      case measure => simp [intOf]; omega
    · obtain rfl : k = i := by omega
      have g : (y != x) = false := by have := HX.out; rw [HY.out] at this; simp [this]
      go_wp2
      go_ret
      exact ⟨rfl, rfl⟩
theorem l9Good_c (v : Value) (m : Mz) (x : Int) (a : Option Addr) (cap : Nat) (l : List Int) (w : World) (hm : MzAt w v m) (hA : IC w a l) (hl : l.length ≤ 1048576) : Calls Try.prog 64 #[v, .int .i64 x, .slice a l.length cap] w fun e w' => e = .returned (.bool (askB m x && fillB m x l)) ∧ Below w.heap.size w w' := by
  have hM := hm
  obtain ⟨⟨ad, cd, ak, ck, rfl, hd, hk'⟩, nd, nk⟩ := hM
  cases b1 : askB m x
  · go_enter Try.func64, Try.ntmps64
    go_wp2_with (go_at_call 45; refine (l9Ask_c _ m _ _ (hm.later (by (repeat (first | exact Below.refl _ _ | apply Below.drew | apply below_drewN | (refine Below.setCell ?_ (by first | omega | (simp; done) | (simp; omega) | (dsimp only; omega)) _) | (refine Below.alloc ?_ (by first | omega | (simp; done) | (simp; omega) | (dsimp only; omega)) _)))))).mono ?_; rintro e w1 ⟨rfl, hb1⟩)
    go_ret
    exact ⟨ret_bool (by simp), below_then (by (repeat (first | exact Below.refl _ _ | apply Below.drew | apply below_drewN | (refine Below.setCell ?_ (by first | omega | (simp; done) | (simp; omega) | (dsimp only; omega)) _) | (refine Below.alloc ?_ (by first | omega | (simp; done) | (simp; omega) | (dsimp only; omega)) _)))) hb1⟩
  · go_enter Try.func64, Try.ntmps64
    go_wp2_with (first | (go_at_call 45; refine (l9Ask_c _ m _ _ (hm.later (by (repeat (first | exact Below.refl _ _ | apply Below.drew | apply below_drewN | (refine Below.setCell ?_ (by first | omega | (simp; done) | (simp; omega) | (dsimp only; omega)) _) | (refine Below.alloc ?_ (by first | omega | (simp; done) | (simp; omega) | (dsimp only; omega)) _)))))).mono ?_; rintro e w1 ⟨rfl, hb1⟩; obtain ⟨hc1, hf1, hz1⟩ := bcell3 hb1; have HB1 : Hid (Below w.heap.size w w1) := below_then (by (repeat (first | exact Below.refl _ _ | apply Below.drew | apply below_drewN | (refine Below.setCell ?_ (by first | omega | (simp; done) | (simp; omega) | (dsimp only; omega)) _) | (refine Below.alloc ?_ (by first | omega | (simp; done) | (simp; omega) | (dsimp only; omega)) _)))) hb1) | (go_at_call 46; refine (l9Filling_c _ m _ _ _ l _ (hm.later HB1.out) b1 (hA.later HB1.out) hl).mono ?_; rintro e w2 ⟨rfl, hb2⟩))
    go_ret
    exact ⟨ret_bool (by simp), below_then HB1.out hb2⟩
set_option maxHeartbeats 2000000 in
theorem l9Swap_c (xn : Nat) (hx : xn < 64) (a b : Int) (af : Option Addr) (cap : Nat) (f : List Int) (w : World) (hA : IC w af f) (hl : f.length ≤ 1048576) (hf : f.length = (mem xn).length) (ha : hasI (mem xn) a = true) (hb : hasI (mem xn) b = true) :
    Calls Try.prog 66 #[.int .i64 xn, .slice af f.length cap, .int .i64 a, .int .i64 b] w fun e w' => ∃ v, e = .returned v ∧ w'.ownsRow w.heap.size 3 1 v f.length (ints (swapL f (placeN xn a) (placeN xn b))) ∧ Below w.heap.size w w' := by
  obtain ⟨i, hi, hi1, hi2, hi3⟩ := idx_has ha
  obtain ⟨k, hk, hk1, hk2, hk3⟩ := idx_has hb
  have HPI : Hid (placeN xn a = i) := by show _ = _; unfold placeN; rw [hi1]; simp
  have HPK : Hid (placeN xn b = k) := by show _ = _; unfold placeN; rw [hk1]; simp
  have hif : i < f.length := by omega
  have hkf : k < f.length := by omega
  have h6 := pop_le6 xn hx
  rw [← mem_len xn hx] at h6
  have HF := Lib.hid hf
  have HI2 := Lib.hid hi2; have HI3 := Lib.hid hi3; have HK2 := Lib.hid hk2; have HK3 := Lib.hid hk3
  clear hf hi1 hi2 hi3 hk1 hk2 hk3
  go_enter Try.func66, Try.ntmps66
  go_wp2_with fail
  refine (l1Own_c _ _ _ f _ rfl hA hl).mono ?_
  rintro e w1 ⟨v1, rfl, ho1, hb1⟩
  obtain ⟨g, cap1, rfl, -, -⟩ := ho1.form (by omega)
  have HO1 := Lib.hid (Own.of ho1); clear ho1
  go_wp2_with fail
  refine (l2Colours_c xn hx _).mono ?_
  rintro e w2 ⟨v2, rfl, ho2, hb2⟩
  obtain ⟨a2, c2, rfl, -, hc2⟩ := (Own.of ho2).ic
  have HB2 : Hid (Below w.heap.size w w2) := below_then hb1 hb2
  have HO12 := Lib.hid (HO1.out.later hb2 (Nat.le_refl _))
  have hz2 : w.heap.size ≤ w2.heap.size := HB2.out.size
  clear hb1 hb2 ho2
  go_wp2_with fail
  refine (l9Place_c _ _ _ i _ _ _ rfl hc2 (by omega) hi HI2.out HI3.out).mono ?_
  rintro e w3 ⟨rfl, rfl⟩
  go_wp2_with fail
  refine (l9Place_c _ _ _ k _ _ _ rfl hc2 (by omega) hk HK2.out HK3.out).mono ?_
  rintro e w3 ⟨rfl, rfl⟩
  have hif' := hif
  obtain ⟨b4, off4, fk, rfl, HFK, hbz, t1⟩ := hA.at k hkf
  obtain ⟨b5, off5, fi, hb5, HFI, _, t2⟩ := hA.at i hif
  cases hb5
  have hbz2 : b4 ≠ g := by have := (HO12.out.blocks g rfl).1; omega
  rw [← HB2.out.cell (p := ⟨b4, off4 + k, none⟩) hbz] at t1
  rw [← HB2.out.cell (p := ⟨b4, off4 + i, none⟩) hbz] at t2
  obtain ⟨⟨u1, c1⟩, f1⟩ := own_cell HO12.out.row i (by omega)
  have st1 := own_store1 HO12.out.row i fk
  obtain ⟨⟨u2, c2'⟩, f2⟩ := own_cell st1.1 k (by omega)
  have st2 := own_store1 st1.1 k fi
  have t3 : (w2.setCell ⟨g, i, none⟩ (.int .i64 fk)).cell? ⟨b4, off4 + i, none⟩ = some (.int .i64 fi) := by
    rw [World.cell?_setCell_other (h := fun h => hbz2 (congrArg Addr.block h).symm)]; exact t2
  have hgz : w.heap.size ≤ g := (HO12.out.blocks g rfl).1
  have HR : Hid (swapL f (placeN xn a) (placeN xn b) = (f.set i fk).set k fi) := by show _ = _; rw [HPI.out, HPK.out, swapL, HFK.out, HFI.out]
  have ST := Lib.hid st2.1
  have HBF : Hid (Below w.heap.size w ((w2.setCell ⟨g, i, none⟩ (.int .i64 fk)).setCell ⟨g, k, none⟩ (.int .i64 fi))) := (HB2.out.setCell (p := ⟨g, i, none⟩) hgz _).setCell (p := ⟨g, k, none⟩) hgz _
  clear st1 st2
  go_wp2
  go_ret
  exact ⟨_, rfl, by rw [HR.out]; exact ST.out, HBF.out⟩
set_option maxHeartbeats 2000000 in
theorem swapped_c (af : Option Addr) (cap i k : Nat) (f : List Int) (w : World) (hA : IC w af f) (hl : f.length ≤ 1048576) (hif : i < f.length) (hkf : k < f.length) (hne : i ≠ k) :
    Calls Try.prog 68 #[.slice af f.length cap, .int .i64 i, .int .i64 k] w fun e w' => ∃ v, e = .returned v ∧ w'.ownsRow w.heap.size 3 1 v f.length (ints (swapL f i k)) ∧ Below w.heap.size w w' := by
  have hik : (i : Int) < (f.length : Int) := by omega
  have hkk : (k : Int) < (f.length : Int) := by omega
  obtain ⟨fi, HFI⟩ : ∃ x, Hid (f[i]! = x) := ⟨_, rfl⟩
  obtain ⟨fk, HFK⟩ : ∃ x, Hid (f[k]! = x) := ⟨_, rfl⟩
  go_enter Try.func68, Try.ntmps68
  go_wp2_with fail
  refine (clone_c _ _ _ f _ rfl hA hl).mono ?_
  rintro e w1 ⟨v1, rfl, ho1, hb1⟩
  obtain ⟨g, cap1, rfl, -, -⟩ := ho1.form (by omega)
  have HO := Lib.hid (Own.of ho1); clear ho1
  have HB1 := Lib.hid hb1; clear hb1
  obtain ⟨wr, rfl⟩ : ∃ wo : World, wo = w1 := ⟨_, rfl⟩
  have hgz : w.heap.size ≤ g := (HO.out.blocks g rfl).1
  obtain ⟨a0, c0, he0, -, hc0⟩ := HO.out.ic
  cases he0
  obtain ⟨b1, o1, x1, he1, HX1, hz1, t1⟩ := hc0.at i hif
  obtain ⟨b2, o2, x2, he2, HX2, hz2, t2⟩ := hc0.at k hkf
  cases he1; cases he2
  rw [HX1.out] at HFI; cases HFI.out
  rw [HX2.out] at HFK; cases HFK.out
  simp only [Nat.zero_add] at t1 t2
  have f1 := (own_cell HO.out.row i (by omega)).2
  have f2 := (own_cell HO.out.row k (by omega)).2
  have st1 := own_store1 HO.out.row i fk
  have st2 := own_store1 st1.1 k fi
  have HR : Hid (swapL f i k = (f.set i fk).set k fi) := by show _ = _; rw [swapL, HX1.out, HX2.out]
  have ST := Lib.hid st2.1
  have HBF : Hid (Below w.heap.size w ((wr.setCell ⟨g, i, none⟩ (.int .i64 fk)).setCell ⟨g, k, none⟩ (.int .i64 fi))) := (HB1.out.setCell (p := ⟨g, i, none⟩) hgz _).setCell (p := ⟨g, k, none⟩) hgz _
  clear st1 st2 hc0
  go_wp2
  go_region
  all_goals go_wp2
  all_goals go_ret
  all_goals exact ⟨_, rfl, by rw [HR.out]; exact ST.out, HBF.out.drew⟩
set_option maxHeartbeats 2000000 in
theorem specSwapFilling_c (v : Value) (m : Mz) (x : Int) (a0 : Option Addr) (cap : Nat) (l : List Int) (a b : Int) (w : World) (R : List Int) (bb : Bool) (hp : pSwapFilling m x l a b = (R, bb)) (hm : MzAt w v m) (wx : wfI x) (hA : IC w a0 l) (hl : l.length ≤ 1048576) (wl : ∀ y ∈ l, wfI y) (wa : wfI a) (wb : wfI b) :
    Calls Try.prog 33 #[v, .int .i64 x, .slice a0 l.length cap, .int .i64 a, .int .i64 b] w fun e w' => ∃ aw cw, e = .returned (.tuple #[.slice aw R.length cw, .bool bb]) ∧ IC w' aw R ∧ Below w.heap.size w w' := by
  have hM := hm
  obtain ⟨⟨ad, cd, ak, ck, rfl, hd, hk'⟩, nd, nk⟩ := hM
  cases g : (askB m x && fillB m x l)
  · simp only [pSwapFilling, g] at hp
    cases hp
    go_enter Try.func33, Try.ntmps33
    go_wp2_with fail
    refine (l9Good_c _ m _ _ _ l _ (hm.later (by (repeat (first | exact Below.refl _ _ | apply Below.drew | apply below_drewN | (refine Below.setCell ?_ (by first | omega | (simp; done) | (simp; omega) | (dsimp only; omega)) _) | (refine Below.alloc ?_ (by first | omega | (simp; done) | (simp; omega) | (dsimp only; omega)) _))))) (hA.later (by (repeat (first | exact Below.refl _ _ | apply Below.drew | apply below_drewN | (refine Below.setCell ?_ (by first | omega | (simp; done) | (simp; omega) | (dsimp only; omega)) _) | (refine Below.alloc ?_ (by first | omega | (simp; done) | (simp; omega) | (dsimp only; omega)) _))))) hl).mono ?_
    rintro e w1 ⟨rfl, hb1⟩
    have hz0 : w.heap.size ≤ w1.heap.size := by have := hb1.size; simp only [World.size_alloc] at this; omega
    rw [g]
    go_wp2_with fail
    go_ret2
    exact ⟨_, _, rfl, fun k hk => absurd hk (Nat.not_lt_zero k), (below_then (w := w) (by (repeat (first | exact Below.refl _ _ | apply Below.drew | apply below_drewN | (refine Below.setCell ?_ (by first | omega | (simp; done) | (simp; omega) | (dsimp only; omega)) _) | (refine Below.alloc ?_ (by first | omega | (simp; done) | (simp; omega) | (dsimp only; omega)) _)))) hb1).alloc hz0 _⟩
  have HG := Lib.hid g
  have hx : 0 ≤ x ∧ x < 64 ∧ l.length = popN x.toNat := by
    simp only [askB, fillB, Bool.and_eq_true, decide_eq_true_eq] at g
    obtain ⟨x0, x1⟩ := setB_true.1 g.1.2
    refine ⟨x0, by omega, ?_⟩
    have := g.2.1
    unfold popc at this; omega
  obtain ⟨x0, x1, x2⟩ := hx
  obtain ⟨xn, rfl⟩ := Int.eq_ofNat_of_zero_le x0
  simp only [Int.toNat_natCast] at x2
  have hxn : xn < 64 := by omega
  have HL : Hid (l.length = (mem xn).length) := by show _ = _; rw [x2, mem_len xn hxn]
  clear x0 x1 x2
  cases e : (a == b)
  case true =>
    simp only [pSwapFilling, g, e] at hp
    cases hp
    go_enter Try.func33, Try.ntmps33
    go_wp2_with fail
    refine (l9Good_c _ m _ _ _ l _ (hm.later (by (repeat (first | exact Below.refl _ _ | apply Below.drew | apply below_drewN | (refine Below.setCell ?_ (by first | omega | (simp; done) | (simp; omega) | (dsimp only; omega)) _) | (refine Below.alloc ?_ (by first | omega | (simp; done) | (simp; omega) | (dsimp only; omega)) _))))) (hA.later (by (repeat (first | exact Below.refl _ _ | apply Below.drew | apply below_drewN | (refine Below.setCell ?_ (by first | omega | (simp; done) | (simp; omega) | (dsimp only; omega)) _) | (refine Below.alloc ?_ (by first | omega | (simp; done) | (simp; omega) | (dsimp only; omega)) _))))) hl).mono ?_
    rintro e w1 ⟨rfl, hb1⟩
    have hz0 : w.heap.size ≤ w1.heap.size := by have := hb1.size; simp only [World.size_alloc] at this; omega
    rw [g]
    go_wp2_with fail
    go_ret2
    exact ⟨_, _, rfl, fun k hk => absurd hk (Nat.not_lt_zero k), (below_then (w := w) (by (repeat (first | exact Below.refl _ _ | apply Below.drew | apply below_drewN | (refine Below.setCell ?_ (by first | omega | (simp; done) | (simp; omega) | (dsimp only; omega)) _) | (refine Below.alloc ?_ (by first | omega | (simp; done) | (simp; omega) | (dsimp only; omega)) _)))) hb1).alloc hz0 _⟩
  cases p1 : hasI (mem xn) a
  case false =>
    simp only [pSwapFilling, g, e, Int.toNat_natCast, p1] at hp
    cases hp
    go_enter Try.func33, Try.ntmps33
    go_wp2_with fail
    refine (l9Good_c _ m _ _ _ l _ (hm.later (by (repeat (first | exact Below.refl _ _ | apply Below.drew | apply below_drewN | (refine Below.setCell ?_ (by first | omega | (simp; done) | (simp; omega) | (dsimp only; omega)) _) | (refine Below.alloc ?_ (by first | omega | (simp; done) | (simp; omega) | (dsimp only; omega)) _))))) (hA.later (by (repeat (first | exact Below.refl _ _ | apply Below.drew | apply below_drewN | (refine Below.setCell ?_ (by first | omega | (simp; done) | (simp; omega) | (dsimp only; omega)) _) | (refine Below.alloc ?_ (by first | omega | (simp; done) | (simp; omega) | (dsimp only; omega)) _))))) hl).mono ?_
    rintro e w1 ⟨rfl, hb1⟩
    rw [g]
    have HB1 : Hid (Below w.heap.size w w1) := below_then (by (repeat (first | exact Below.refl _ _ | apply Below.drew | apply below_drewN | (refine Below.setCell ?_ (by first | omega | (simp; done) | (simp; omega) | (dsimp only; omega)) _) | (refine Below.alloc ?_ (by first | omega | (simp; done) | (simp; omega) | (dsimp only; omega)) _)))) hb1
    go_wp2_with fail
    refine (l2Colours_c xn hxn _).mono ?_
    rintro e w2 ⟨v2, rfl, ho2, hb2⟩
    obtain ⟨a2, c2, rfl, -, hc2⟩ := (Own.of ho2).ic
    go_wp2_with fail
    refine (l1Has_c _ _ _ _ _ _ rfl hc2 (by have := HL.out; omega)).mono ?_
    rintro e w3 ⟨rfl, rfl⟩
    rw [p1]
    go_wp2_with fail
    go_ret2
    exact ⟨_, _, rfl, fun k hk => absurd hk (Nat.not_lt_zero k), (below_then HB1.out hb2).alloc (below_then HB1.out hb2).size _⟩
  cases p2 : hasI (mem xn) b
  case false =>
    simp only [pSwapFilling, g, e, Int.toNat_natCast, p1, p2] at hp
    cases hp
    go_enter Try.func33, Try.ntmps33
    go_wp2_with fail
    refine (l9Good_c _ m _ _ _ l _ (hm.later (by (repeat (first | exact Below.refl _ _ | apply Below.drew | apply below_drewN | (refine Below.setCell ?_ (by first | omega | (simp; done) | (simp; omega) | (dsimp only; omega)) _) | (refine Below.alloc ?_ (by first | omega | (simp; done) | (simp; omega) | (dsimp only; omega)) _))))) (hA.later (by (repeat (first | exact Below.refl _ _ | apply Below.drew | apply below_drewN | (refine Below.setCell ?_ (by first | omega | (simp; done) | (simp; omega) | (dsimp only; omega)) _) | (refine Below.alloc ?_ (by first | omega | (simp; done) | (simp; omega) | (dsimp only; omega)) _))))) hl).mono ?_
    rintro e w1 ⟨rfl, hb1⟩
    rw [g]
    have HB1 : Hid (Below w.heap.size w w1) := below_then (by (repeat (first | exact Below.refl _ _ | apply Below.drew | apply below_drewN | (refine Below.setCell ?_ (by first | omega | (simp; done) | (simp; omega) | (dsimp only; omega)) _) | (refine Below.alloc ?_ (by first | omega | (simp; done) | (simp; omega) | (dsimp only; omega)) _)))) hb1
    go_wp2_with fail
    refine (l2Colours_c xn hxn _).mono ?_
    rintro e w2 ⟨v2, rfl, ho2, hb2⟩
    obtain ⟨a2, c2, rfl, -, hc2⟩ := (Own.of ho2).ic
    have HB2 : Hid (Below w.heap.size w w2) := below_then HB1.out hb2
    go_wp2_with fail
    refine (l1Has_c _ _ _ _ _ _ rfl hc2 (by have := HL.out; omega)).mono ?_
    rintro e w3 ⟨rfl, rfl⟩
    rw [p1]
    go_wp2_with fail
    refine (l2Colours_c xn hxn _).mono ?_
    rintro e w4 ⟨v4, rfl, ho4, hb4⟩
    obtain ⟨a4, c4, rfl, -, hc4⟩ := (Own.of ho4).ic
    go_wp2_with fail
    refine (l1Has_c _ _ _ _ _ _ rfl hc4 (by have := HL.out; omega)).mono ?_
    rintro e w5 ⟨rfl, rfl⟩
    rw [p2]
    go_wp2_with fail
    go_ret2
    exact ⟨_, _, rfl, fun k hk => absurd hk (Nat.not_lt_zero k), (below_then HB2.out hb4).alloc (below_then HB2.out hb4).size _⟩
  simp only [pSwapFilling, g, e, Int.toNat_natCast, p1, p2] at hp
  cases hp
  go_enter Try.func33, Try.ntmps33
  go_wp2_with fail
  refine (l9Good_c _ m _ _ _ l _ (hm.later (by (repeat (first | exact Below.refl _ _ | apply Below.drew | apply below_drewN | (refine Below.setCell ?_ (by first | omega | (simp; done) | (simp; omega) | (dsimp only; omega)) _) | (refine Below.alloc ?_ (by first | omega | (simp; done) | (simp; omega) | (dsimp only; omega)) _))))) (hA.later (by (repeat (first | exact Below.refl _ _ | apply Below.drew | apply below_drewN | (refine Below.setCell ?_ (by first | omega | (simp; done) | (simp; omega) | (dsimp only; omega)) _) | (refine Below.alloc ?_ (by first | omega | (simp; done) | (simp; omega) | (dsimp only; omega)) _))))) hl).mono ?_
  rintro e w1 ⟨rfl, hb1⟩
  rw [g]
  have HB1 : Hid (Below w.heap.size w w1) := below_then (by (repeat (first | exact Below.refl _ _ | apply Below.drew | apply below_drewN | (refine Below.setCell ?_ (by first | omega | (simp; done) | (simp; omega) | (dsimp only; omega)) _) | (refine Below.alloc ?_ (by first | omega | (simp; done) | (simp; omega) | (dsimp only; omega)) _)))) hb1
  go_wp2_with fail
  refine (l2Colours_c xn hxn _).mono ?_
  rintro e w2 ⟨v2, rfl, ho2, hb2⟩
  obtain ⟨a2, c2, rfl, -, hc2⟩ := (Own.of ho2).ic
  have HB2 : Hid (Below w.heap.size w w2) := below_then HB1.out hb2
  go_wp2_with fail
  refine (l1Has_c _ _ _ _ _ _ rfl hc2 (by have := HL.out; omega)).mono ?_
  rintro e w3 ⟨rfl, rfl⟩
  rw [p1]
  go_wp2_with fail
  refine (l2Colours_c xn hxn _).mono ?_
  rintro e w4 ⟨v4, rfl, ho4, hb4⟩
  obtain ⟨a4, c4, rfl, -, hc4⟩ := (Own.of ho4).ic
  have HB4 : Hid (Below w.heap.size w w4) := below_then HB2.out hb4
  go_wp2_with fail
  refine (l1Has_c _ _ _ _ _ _ rfl hc4 (by have := HL.out; omega)).mono ?_
  rintro e w5 ⟨rfl, rfl⟩
  rw [p2]
  go_wp2_with fail
  refine (l9Swap_c xn hxn a b _ _ l _ (hA.later HB4.out) hl HL.out p1 p2).mono ?_
  rintro e w6 ⟨v6, rfl, ho6, hb6⟩
  obtain ⟨a6, c6, he6, -, hc6⟩ := (Own.of (by rw [← swapL_len l (placeN xn a) (placeN xn b)] at ho6; exact ho6)).ic
  subst he6
  go_wp2_with fail
  go_ret2
  exact ⟨a6, c6, by rw [swapL_len]; rfl, hc6, below_then HB4.out hb6⟩
set_option maxHeartbeats 2000000 in
theorem implSwapFilling_c (v : Value) (m : Mz) (x : Int) (a0 : Option Addr) (cap : Nat) (l : List Int) (a b : Int) (w : World) (R : List Int) (bb : Bool) (hp : pSwapFilling m x l a b = (R, bb)) (hm : MzAt w v m) (wx : wfI x) (hA : IC w a0 l) (hl : l.length ≤ 1048576) (wl : ∀ y ∈ l, wfI y) (wa : wfI a) (wb : wfI b) :
    Calls Try.prog 34 #[v, .int .i64 x, .slice a0 l.length cap, .int .i64 a, .int .i64 b] w fun e w' => ∃ u, e = .returned (.tuple #[u, .bool bb]) ∧ w'.ownsRow w.heap.size 3 1 u R.length (ints R) ∧ Below w.heap.size w w' := by
  have hM := hm
  obtain ⟨⟨ad, cd, ak, ck, rfl, hd, hk'⟩, nd, nk⟩ := hM
  cases g1 : askB m x
  case false =>
    simp only [pSwapFilling, g1] at hp
    cases hp
    go_enter Try.func34, Try.ntmps34
    go_wp2_with fail
    refine (asked_c _ m _ _ (hm.later (by (repeat (first | exact Below.refl _ _ | apply Below.drew | apply below_drewN | (refine Below.setCell ?_ (by first | omega | (simp; done) | (simp; omega) | (dsimp only; omega)) _) | (refine Below.alloc ?_ (by first | omega | (simp; done) | (simp; omega) | (dsimp only; omega)) _)))))).mono ?_
    rintro e w1 ⟨rfl, hb1⟩
    have HB1 : Hid (Below w.heap.size w w1) := below_then (by (repeat (first | exact Below.refl _ _ | apply Below.drew | apply below_drewN | (refine Below.setCell ?_ (by first | omega | (simp; done) | (simp; omega) | (dsimp only; omega)) _) | (refine Below.alloc ?_ (by first | omega | (simp; done) | (simp; omega) | (dsimp only; omega)) _)))) hb1
    obtain ⟨hc1, hf1, hz1⟩ := bcell3 hb1
    rw [g1]
    go_wp2_with fail
    go_ret2
    exact ⟨_, rfl, ⟨rfl, .inl ⟨rfl, rfl⟩⟩, HB1.out⟩
  cases g2 : fillB m x l
  case false =>
    simp only [pSwapFilling, g1, g2] at hp
    cases hp
    go_enter Try.func34, Try.ntmps34
    go_wp2_with fail
    refine (asked_c _ m _ _ (hm.later (by (repeat (first | exact Below.refl _ _ | apply Below.drew | apply below_drewN | (refine Below.setCell ?_ (by first | omega | (simp; done) | (simp; omega) | (dsimp only; omega)) _) | (refine Below.alloc ?_ (by first | omega | (simp; done) | (simp; omega) | (dsimp only; omega)) _)))))).mono ?_
    rintro e w1 ⟨rfl, hb1⟩
    have HB1 : Hid (Below w.heap.size w w1) := below_then (by (repeat (first | exact Below.refl _ _ | apply Below.drew | apply below_drewN | (refine Below.setCell ?_ (by first | omega | (simp; done) | (simp; omega) | (dsimp only; omega)) _) | (refine Below.alloc ?_ (by first | omega | (simp; done) | (simp; omega) | (dsimp only; omega)) _)))) hb1
    obtain ⟨hc1, hf1, hz1⟩ := bcell3 hb1
    rw [g1]
    go_wp2_with fail
    refine (isFilling_c _ m _ _ _ l _ (hm.later HB1.out) g1 (hA.later HB1.out) hl).mono ?_
    rintro e w2 ⟨rfl, hb2⟩
    have HB2 : Hid (Below w.heap.size w w2) := below_then HB1.out hb2
    rw [g2]
    go_wp2_with fail
    go_ret2
    exact ⟨_, rfl, ⟨rfl, .inl ⟨rfl, rfl⟩⟩, HB2.out⟩
  have hx : 0 ≤ x ∧ x < 64 ∧ l.length = popN x.toNat := by
    have g1' := g1
    have g2' := g2
    simp only [askB, fillB, Bool.and_eq_true, decide_eq_true_eq] at g1' g2'
    obtain ⟨x0, x1⟩ := setB_true.1 g1'.2
    refine ⟨x0, by omega, ?_⟩
    have := g2'.1
    unfold popc at this; omega
  obtain ⟨x0, x1, x2⟩ := hx
  obtain ⟨xn, rfl⟩ := Int.eq_ofNat_of_zero_le x0
  simp only [Int.toNat_natCast] at x2
  have hxn : xn < 64 := by omega
  have h6 := pop_le6 xn hxn
  have HL : Hid (l.length = (mem xn).length) := by show _ = _; rw [x2, mem_len xn hxn]
  have HL6 : (mem xn).length ≤ 6 := by rw [mem_len xn hxn]; exact h6
  clear x0 x1 x2
  cases e : (a == b)
  case true =>
    simp only [pSwapFilling, g1, g2, e] at hp
    cases hp
    go_enter Try.func34, Try.ntmps34
    go_wp2_with fail
    refine (asked_c _ m _ _ (hm.later (by (repeat (first | exact Below.refl _ _ | apply Below.drew | apply below_drewN | (refine Below.setCell ?_ (by first | omega | (simp; done) | (simp; omega) | (dsimp only; omega)) _) | (refine Below.alloc ?_ (by first | omega | (simp; done) | (simp; omega) | (dsimp only; omega)) _)))))).mono ?_
    rintro e w1 ⟨rfl, hb1⟩
    have HB1 : Hid (Below w.heap.size w w1) := below_then (by (repeat (first | exact Below.refl _ _ | apply Below.drew | apply below_drewN | (refine Below.setCell ?_ (by first | omega | (simp; done) | (simp; omega) | (dsimp only; omega)) _) | (refine Below.alloc ?_ (by first | omega | (simp; done) | (simp; omega) | (dsimp only; omega)) _)))) hb1
    obtain ⟨hc1, hf1, hz1⟩ := bcell3 hb1
    rw [g1]
    go_wp2_with fail
    refine (isFilling_c _ m _ _ _ l _ (hm.later HB1.out) g1 (hA.later HB1.out) hl).mono ?_
    rintro e w2 ⟨rfl, hb2⟩
    have HB2 : Hid (Below w.heap.size w w2) := below_then HB1.out hb2
    rw [g2]
    go_wp2_with fail
    refine (members_c xn (by omega) _).mono ?_
    rintro e w3 ⟨v3, rfl, ho3, hb3⟩
    obtain ⟨a3, c3', rfl, -, hc3⟩ := (Own.of ho3).ic
    have HB3 : Hid (Below w.heap.size w w3) := below_then HB2.out hb3
    go_wp2_with fail
    refine (index_c _ _ _ _ _ _ rfl hc3 (by have := HL.out; omega)).mono ?_
    rintro e w4 ⟨rfl, rfl⟩
    go_wp2_with fail
    refine (members_c xn (by omega) _).mono ?_
    rintro e w5 ⟨v5, rfl, ho5, hb5⟩
    obtain ⟨a5, c5, rfl, -, hc5⟩ := (Own.of ho5).ic
    have HB5 : Hid (Below w.heap.size w w5) := below_then HB3.out hb5
    go_wp2_with fail
    refine (index_c _ _ _ _ _ _ rfl hc5 (by have := HL.out; omega)).mono ?_
    rintro e w6 ⟨rfl, rfl⟩
    go_wp2_with fail
    go_ret2
    exact ⟨_, rfl, ⟨rfl, .inl ⟨rfl, rfl⟩⟩, HB5.out⟩
  cases p1 : hasI (mem xn) a
  case false =>
    have q1 := idx_not p1
    simp only [pSwapFilling, g1, g2, e, Int.toNat_natCast, p1] at hp
    cases hp
    go_enter Try.func34, Try.ntmps34
    go_wp2_with fail
    refine (asked_c _ m _ _ (hm.later (by (repeat (first | exact Below.refl _ _ | apply Below.drew | apply below_drewN | (refine Below.setCell ?_ (by first | omega | (simp; done) | (simp; omega) | (dsimp only; omega)) _) | (refine Below.alloc ?_ (by first | omega | (simp; done) | (simp; omega) | (dsimp only; omega)) _)))))).mono ?_
    rintro e w1 ⟨rfl, hb1⟩
    have HB1 : Hid (Below w.heap.size w w1) := below_then (by (repeat (first | exact Below.refl _ _ | apply Below.drew | apply below_drewN | (refine Below.setCell ?_ (by first | omega | (simp; done) | (simp; omega) | (dsimp only; omega)) _) | (refine Below.alloc ?_ (by first | omega | (simp; done) | (simp; omega) | (dsimp only; omega)) _)))) hb1
    obtain ⟨hc1, hf1, hz1⟩ := bcell3 hb1
    rw [g1]
    go_wp2_with fail
    refine (isFilling_c _ m _ _ _ l _ (hm.later HB1.out) g1 (hA.later HB1.out) hl).mono ?_
    rintro e w2 ⟨rfl, hb2⟩
    have HB2 : Hid (Below w.heap.size w w2) := below_then HB1.out hb2
    rw [g2]
    go_wp2_with fail
    refine (members_c xn (by omega) _).mono ?_
    rintro e w3 ⟨v3, rfl, ho3, hb3⟩
    obtain ⟨a3, c3', rfl, -, hc3⟩ := (Own.of ho3).ic
    have HB3 : Hid (Below w.heap.size w w3) := below_then HB2.out hb3
    go_wp2_with fail
    refine (index_c _ _ _ _ _ _ rfl hc3 (by have := HL.out; omega)).mono ?_
    rintro e w4 ⟨rfl, rfl⟩
    rw [q1]
    go_wp2_with fail
    refine (members_c xn (by omega) _).mono ?_
    rintro e w5 ⟨v5, rfl, ho5, hb5⟩
    obtain ⟨a5, c5, rfl, -, hc5⟩ := (Own.of ho5).ic
    have HB5 : Hid (Below w.heap.size w w5) := below_then HB3.out hb5
    go_wp2_with fail
    refine (index_c _ _ _ _ _ _ rfl hc5 (by have := HL.out; omega)).mono ?_
    rintro e w6 ⟨rfl, rfl⟩
    skip
    go_wp2_with fail
    go_ret2
    exact ⟨_, rfl, ⟨rfl, .inl ⟨rfl, rfl⟩⟩, HB5.out⟩
  obtain ⟨i, hi, hi1, hi2, -⟩ := idx_has p1
  cases p2 : hasI (mem xn) b
  case false =>
    have q2 := idx_not p2
    simp only [pSwapFilling, g1, g2, e, Int.toNat_natCast, p1, p2] at hp
    cases hp
    go_enter Try.func34, Try.ntmps34
    go_wp2_with fail
    refine (asked_c _ m _ _ (hm.later (by (repeat (first | exact Below.refl _ _ | apply Below.drew | apply below_drewN | (refine Below.setCell ?_ (by first | omega | (simp; done) | (simp; omega) | (dsimp only; omega)) _) | (refine Below.alloc ?_ (by first | omega | (simp; done) | (simp; omega) | (dsimp only; omega)) _)))))).mono ?_
    rintro e w1 ⟨rfl, hb1⟩
    have HB1 : Hid (Below w.heap.size w w1) := below_then (by (repeat (first | exact Below.refl _ _ | apply Below.drew | apply below_drewN | (refine Below.setCell ?_ (by first | omega | (simp; done) | (simp; omega) | (dsimp only; omega)) _) | (refine Below.alloc ?_ (by first | omega | (simp; done) | (simp; omega) | (dsimp only; omega)) _)))) hb1
    obtain ⟨hc1, hf1, hz1⟩ := bcell3 hb1
    rw [g1]
    go_wp2_with fail
    refine (isFilling_c _ m _ _ _ l _ (hm.later HB1.out) g1 (hA.later HB1.out) hl).mono ?_
    rintro e w2 ⟨rfl, hb2⟩
    have HB2 : Hid (Below w.heap.size w w2) := below_then HB1.out hb2
    rw [g2]
    go_wp2_with fail
    refine (members_c xn (by omega) _).mono ?_
    rintro e w3 ⟨v3, rfl, ho3, hb3⟩
    obtain ⟨a3, c3', rfl, -, hc3⟩ := (Own.of ho3).ic
    have HB3 : Hid (Below w.heap.size w w3) := below_then HB2.out hb3
    go_wp2_with fail
    refine (index_c _ _ _ _ _ _ rfl hc3 (by have := HL.out; omega)).mono ?_
    rintro e w4 ⟨rfl, rfl⟩
    rw [hi1]
    go_wp2_with fail
    refine (members_c xn (by omega) _).mono ?_
    rintro e w5 ⟨v5, rfl, ho5, hb5⟩
    obtain ⟨a5, c5, rfl, -, hc5⟩ := (Own.of ho5).ic
    have HB5 : Hid (Below w.heap.size w w5) := below_then HB3.out hb5
    go_wp2_with fail
    refine (index_c _ _ _ _ _ _ rfl hc5 (by have := HL.out; omega)).mono ?_
    rintro e w6 ⟨rfl, rfl⟩
    have gi : decide ((i : Int) < 0) = false := by simp
    rw [q2]
    go_wp2_with fail
    go_ret2
    exact ⟨_, rfl, ⟨rfl, .inl ⟨rfl, rfl⟩⟩, HB5.out⟩
  obtain ⟨k, hk, hk1, hk2, -⟩ := idx_has p2
  have hne : i ≠ k := by rintro rfl; rw [hi2] at hk2; subst hk2; simp at e
  have HPI : Hid (placeN xn a = i) := by show _ = _; unfold placeN; rw [hi1]; simp
  have HPK : Hid (placeN xn b = k) := by show _ = _; unfold placeN; rw [hk1]; simp
  simp only [pSwapFilling, g1, g2, e, Int.toNat_natCast, p1, p2] at hp
  cases hp
  clear hi2 hk2
  go_enter Try.func34, Try.ntmps34
  go_wp2_with fail
  refine (asked_c _ m _ _ (hm.later (by (repeat (first | exact Below.refl _ _ | apply Below.drew | apply below_drewN | (refine Below.setCell ?_ (by first | omega | (simp; done) | (simp; omega) | (dsimp only; omega)) _) | (refine Below.alloc ?_ (by first | omega | (simp; done) | (simp; omega) | (dsimp only; omega)) _)))))).mono ?_
  rintro e w1 ⟨rfl, hb1⟩
  have HB1 : Hid (Below w.heap.size w w1) := below_then (by (repeat (first | exact Below.refl _ _ | apply Below.drew | apply below_drewN | (refine Below.setCell ?_ (by first | omega | (simp; done) | (simp; omega) | (dsimp only; omega)) _) | (refine Below.alloc ?_ (by first | omega | (simp; done) | (simp; omega) | (dsimp only; omega)) _)))) hb1
  obtain ⟨hc1, hf1, hz1⟩ := bcell3 hb1
  rw [g1]
  go_wp2_with fail
  refine (isFilling_c _ m _ _ _ l _ (hm.later HB1.out) g1 (hA.later HB1.out) hl).mono ?_
  rintro e w2 ⟨rfl, hb2⟩
  have HB2 : Hid (Below w.heap.size w w2) := below_then HB1.out hb2
  rw [g2]
  go_wp2_with fail
  refine (members_c xn (by omega) _).mono ?_
  rintro e w3 ⟨v3, rfl, ho3, hb3⟩
  obtain ⟨a3, c3', rfl, -, hc3⟩ := (Own.of ho3).ic
  have HB3 : Hid (Below w.heap.size w w3) := below_then HB2.out hb3
  go_wp2_with fail
  refine (index_c _ _ _ _ _ _ rfl hc3 (by have := HL.out; omega)).mono ?_
  rintro e w4 ⟨rfl, rfl⟩
  rw [hi1]
  go_wp2_with fail
  refine (members_c xn (by omega) _).mono ?_
  rintro e w5 ⟨v5, rfl, ho5, hb5⟩
  obtain ⟨a5, c5, rfl, -, hc5⟩ := (Own.of ho5).ic
  have HB5 : Hid (Below w.heap.size w w5) := below_then HB3.out hb5
  go_wp2_with fail
  refine (index_c _ _ _ _ _ _ rfl hc5 (by have := HL.out; omega)).mono ?_
  rintro e w6 ⟨rfl, rfl⟩
  have gi : decide ((i : Int) < 0) = false := by simp
  have gk : decide ((k : Int) < 0) = false := by simp
  rw [hk1]
  go_wp2_with fail
  refine (swapped_c _ _ i k l _ (hA.later HB5.out) hl (by have := HL.out; omega) (by have := HL.out; omega) hne).mono ?_
  rintro e w7 ⟨v7, rfl, ho7, hb7⟩
  go_wp2_with fail
  go_ret2
  refine ⟨v7, rfl, ?_, below_then HB5.out hb7⟩
  rw [HPI.out, HPK.out, swapL_len]
  exact (Own.mono (Own.of ho7) HB5.out.size (Nat.le_refl _)).row
end Go.Proofs.Ytmapnpgjbahabaa
