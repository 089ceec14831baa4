/- FirstPlan: the program's. -/
import Derived.Test.YtkhackdbnmcffaaKdFew
import Derived.Test.YtkhackdbnmcffaaKdPlanF
set_option linter.unusedVariables false
set_option linter.unusedSimpArgs false
namespace Go.Proofs.Ytkhackdbnmcffaa
open Go.RowKit Go.KD
attribute [local go_sem] later_cell later_frozen
set_option maxRecDepth 100000 in
set_option maxHeartbeats 16000000 in
theorem implFirstPlan_c (v : Value) (m : Wk) (w : World) (R : List Int) (b : Bool) (hp : pFirstPlan m = (R, b)) (hm : WkAt w v m) : Calls Try.prog 30 #[v] w fun e w' => ∃ u, e = .returned (.tuple #[u, .bool b]) ∧ w'.ownsRow w.heap.size 3 1 u R.length (ints R) ∧ Below w.heap.size w w' := by
  have hM := hm
  obtain ⟨⟨ad, cd, ak, ck, rfl, hd, hk'⟩, nd, nk⟩ := hM
  obtain ⟨i0, ji, jz0, jz1, jz2⟩ := info_parts infoI
  obtain ⟨q0, q1, q2, z1⟩ := box3W (Below.refl (w.heap.size + 1) (w.alloc (.cells #[.int .i64 m.size, .slice ad m.gates.length cd, .slice ak m.pulls.length ck] 29))) (by omega)
  cases b1 : worksB m
  case false =>
    have hp' : pFirstPlan m = ([], false) := by simp [pFirstPlan, b1]
    rw [hp'] at hp
    cases hp
    clear hp'
    go_enter Try.func30, Try.ntmps30
    go_wp2_with (go_at_call 40; refine (isWorks_c _ m _ (hm.later (by (repeat (first | exact Below.refl _ _ | apply Below.drew | apply below_drewN | (refine Below.setCell ?_ (by first | omega | (simp; done) | (simp; omega) | (dsimp only; omega)) _) | (refine Below.alloc ?_ (by first | omega | (simp; done) | (simp; omega) | (dsimp only; omega)) _)))))).mono ?_; rintro e w1 ⟨rfl, hb1⟩; have HB1 : Hid (Below w.heap.size w w1) := below_then (by (repeat (first | exact Below.refl _ _ | apply Below.drew | apply below_drewN | (refine Below.setCell ?_ (by first | omega | (simp; done) | (simp; omega) | (dsimp only; omega)) _) | (refine Below.alloc ?_ (by first | omega | (simp; done) | (simp; omega) | (dsimp only; omega)) _)))) hb1; have HX1 : Hid (Below (w.heap.size + 1) (w.alloc (.cells #[.int .i64 m.size, .slice ad m.gates.length cd, .slice ak m.pulls.length ck] 29)) w1) := hb1.mono (by simp); clear q0 q1 q2; obtain ⟨q0, q1, q2, z1⟩ := box3W HX1.out (by omega); clear hb1; rw [b1])
    go_ret2
    exact ⟨_, rfl, ⟨rfl, .inl ⟨rfl, rfl⟩⟩, HB1.out⟩
  have HZG := Lib.hid zeroGrid
  have OK := Lib.hid (worksB_true.1 b1)
  obtain ⟨G, hG⟩ : ∃ G, G = gridL (goalF m) := ⟨_, rfl⟩
  have hGl : G.length = 768 := by rw [hG]; exact gridL_len _
  obtain ⟨gd, hgd⟩ : ∃ gd : Nat → Int, gd = goalD m := ⟨_, rfl⟩
  have HGE : Hid (∀ i, i < 768 → G[i]! = gd i) := by rw [hG, hgd]; exact fun i hi => gridL_at _ hi
  have HFI : Hid (∀ x l : Nat, (x : Int) < m.size → l < 64 → 0 < gd (x * 64 + l) → fstI m x l < (actsL m (x : Nat) (l : Nat)).length) := by rw [hgd]; exact fun x l h1 h2 h3 => fstI_lt OK.out h1 h2 h3
  have HOK : Hid (∀ (x l : Nat) (a : Int), okA m x l a = decide (gd (wSt m x l a) = gd (x * 64 + l) - 1)) := by rw [hgd]; exact fun _ _ _ => rfl
  have HGG : Hid (gridL (goalF m) = G) := hG.symm
  have HGL := Lib.hid hGl
  obtain ⟨c0, hc0⟩ : ∃ c0, c0 = gd 0 := ⟨_, rfl⟩
  have HC0 := Lib.hid hc0
  have hpp : pFirstPlan m = if inB c0 0 60 then ((planS m c0.toNat).1, true) else ([], false) := by simp [pFirstPlan, b1, hc0, hgd]
  rw [hpp] at hp
  have hPL : ∀ k : Nat, (k : Int) ≤ c0 → (((planS m k).2.1 : Nat) : Int) < m.size ∧ (planS m k).2.2 < 64 ∧ gd ((planS m k).2.1 * 64 + (planS m k).2.2) = c0 - k ∧ (planS m k).1.length = k := by rw [hc0, hgd]; exact plan_ok OK.out
  clear hG hGl hc0 hpp hgd
  cases b2 : inB c0 0 60
  case false =>
    rw [b2] at hp
    cases hp
    have HB2' := Lib.hid b2
    clear b2
    go_enter Try.func30, Try.ntmps30
    go_upto_region 3 with (go_at_call 40; refine (isWorks_c _ m _ (hm.later (by (repeat (first | exact Below.refl _ _ | apply Below.drew | apply below_drewN | (refine Below.setCell ?_ (by first | omega | (simp; done) | (simp; omega) | (dsimp only; omega)) _) | (refine Below.alloc ?_ (by first | omega | (simp; done) | (simp; omega) | (dsimp only; omega)) _)))))).mono ?_; rintro e w1 ⟨rfl, hb1⟩; have HB1 : Hid (Below w.heap.size w w1) := below_then (by (repeat (first | exact Below.refl _ _ | apply Below.drew | apply below_drewN | (refine Below.setCell ?_ (by first | omega | (simp; done) | (simp; omega) | (dsimp only; omega)) _) | (refine Below.alloc ?_ (by first | omega | (simp; done) | (simp; omega) | (dsimp only; omega)) _)))) hb1; have HX1 : Hid (Below (w.heap.size + 1) (w.alloc (.cells #[.int .i64 m.size, .slice ad m.gates.length cd, .slice ak m.pulls.length ck] 29)) w1) := hb1.mono (by simp); clear q0 q1 q2; obtain ⟨q0, q1, q2, z1⟩ := box3W HX1.out (by omega); clear hb1; rw [b1])
    go_upto_region 4 with (first
      | (go_at_call 76; refine (toGoal_c m ad ak cd ck _ (hm.later HB1.out) OK.out).mono ?_; rintro e w2 ⟨rfl, hb2⟩; rw [HGG.out]; have HB2 : Hid (Below w.heap.size w w2) := below_then HB1.out hb2; have HB12 : Hid (Below w1.heap.size w1 w2) := hb2; have hst : (storeCells ⟨w2.heap.size + 1, 0, none⟩ (ints G)).run Try.prog ((w2.alloc (.cells #[] 3)).alloc (.cells (ints zer).toArray 80)) = .ok () (((w2.alloc (.cells #[] 3)).alloc (.cells (ints zer).toArray 80)).setCells (w2.heap.size + 1) 0 (ints G)) := run_store_grid _ _ HGL.out (by have h := (GrA.new (w2.alloc (.cells #[] 3)) 80 zer_len).there; have e : (w2.alloc (.cells #[] 3)).heap.size = w2.heap.size + 1 := (by simp); rw [e] at h; exact h))
      | (refine wpList_alloc_z _ rfl 80 rfl _ HZG.out.1 ?_))
    obtain ⟨W0, hW0⟩ : ∃ W0, W0 = w2.alloc (.cells #[] 3) := ⟨_, rfl⟩
    have hz0 : W0.heap.size = w2.heap.size + 1 := by rw [hW0]; simp
    have hzw2 := HB2.out.size
    have ho0 : W0.ownsRow w1.heap.size 3 1 (.slice (some ⟨w2.heap.size, 0, none⟩) 0 0) 0 (ints []) := by
      rw [hW0]
      exact World.ownsRow_lit (base := w1.heap.size) (e := 3) (size := 1) w2 #[] 0 HB12.out.size (by unfold maxLen; omega) rfl
    have hb12 := HB12.out
    have hb0 : Below w1.heap.size w1 W0 := by rw [hW0]; exact hb12.alloc hb12.size _
    rw [← hW0]
    have hgn := GrA.new W0 80 zer_len
    rw [hz0] at hgn
    have hG1 : GrA ((W0.alloc (.cells (ints zer).toArray 80)).setCells (w2.heap.size + 1) 0 (ints G)) (w2.heap.size + 1) G := GrA.of HGL.out hgn.there hgn.lt
    have hgr := grown_setCells (w2.heap.size + 1) (ints G) 0 (W0.alloc (.cells (ints zer).toArray 80))
    have hA0 : Below W0.heap.size W0 (W0.alloc (.cells (ints zer).toArray 80)) := (Below.refl _ _).alloc (Nat.le_refl _) _
    have ho1 := own_grownW (own_belowW ho0 hA0) hgr (by omega)
    have hz12 := hb12.size
    have hb1' : Below w1.heap.size w1 ((W0.alloc (.cells (ints zer).toArray 80)).setCells (w2.heap.size + 1) 0 (ints G)) := Below.grown (hb0.trans (hA0.mono (by omega))) hgr (by simp; omega) (fun b hb => by cases hb; omega)
    obtain ⟨W1, hW1⟩ : ∃ W1, W1 = ((W0.alloc (.cells (ints zer).toArray 80)).setCells (w2.heap.size + 1) 0 (ints G)) := ⟨_, rfl⟩
    have hzW1 : w2.heap.size + 2 ≤ W1.heap.size := by rw [hW1, size_setCells]; simp; omega
    rw [← hW1] at hG1 ho1 hb1' ⊢
    have HG1 := Lib.hid hG1
    have HO1 := Lib.hid ho1
    have HBB : Hid (Below w1.heap.size w1 W1) := hb1'
    have HBW : Hid (Below w.heap.size w W1) := below_then HB1.out hb1'
    clear hW0 hz0 ho0 hb0 hgn hgr hA0 ho1 hb1' hW1 hG1 hst hb12
    have hg0 := HG1.out.cell 0 (by omega)
    rw [HGE.out 0 (by omega), ← HC0.out] at hg0
    go_wp2_with (go_at_call 86; refine (within_c c0 0 60 _).mono ?_; rintro e w4 ⟨rfl, rfl⟩; rw [HB2'.out])
    go_ret2
    exact ⟨_, rfl, ⟨rfl, .inl ⟨rfl, rfl⟩⟩, HBW.out⟩
  have hb := b2
  rw [b2, if_pos rfl] at hp
  simp only [Prod.mk.injEq] at hp
  obtain ⟨hR, rfl⟩ := hp
  rw [inB_true] at hb
  obtain ⟨cn, hcn⟩ := Int.eq_ofNat_of_zero_le hb.1
  subst hcn
  have hcn60 : cn ≤ 60 := by omega
  rw [Int.toNat_natCast] at hR
  have HR := Lib.hid hR
  have HPL : Hid (∀ k : Nat, k ≤ cn → (((planS m k).2.1 : Nat) : Int) < m.size ∧ (planS m k).2.2 < 64 ∧ gd ((planS m k).2.1 * 64 + (planS m k).2.2) = (cn : Int) - k ∧ (planS m k).1.length = k) := fun k hk => hPL k (by omega)
  have HB2' := Lib.hid b2
  clear b2 hb hR hPL
  go_enter Try.func30, Try.ntmps30
  go_upto_region 3 with (go_at_call 40; refine (isWorks_c _ m _ (hm.later (by (repeat (first | exact Below.refl _ _ | apply Below.drew | apply below_drewN | (refine Below.setCell ?_ (by first | omega | (simp; done) | (simp; omega) | (dsimp only; omega)) _) | (refine Below.alloc ?_ (by first | omega | (simp; done) | (simp; omega) | (dsimp only; omega)) _)))))).mono ?_; rintro e w1 ⟨rfl, hb1⟩; have HB1 : Hid (Below w.heap.size w w1) := below_then (by (repeat (first | exact Below.refl _ _ | apply Below.drew | apply below_drewN | (refine Below.setCell ?_ (by first | omega | (simp; done) | (simp; omega) | (dsimp only; omega)) _) | (refine Below.alloc ?_ (by first | omega | (simp; done) | (simp; omega) | (dsimp only; omega)) _)))) hb1; have HX1 : Hid (Below (w.heap.size + 1) (w.alloc (.cells #[.int .i64 m.size, .slice ad m.gates.length cd, .slice ak m.pulls.length ck] 29)) w1) := hb1.mono (by simp); clear q0 q1 q2; obtain ⟨q0, q1, q2, z1⟩ := box3W HX1.out (by omega); clear hb1; rw [b1])
  go_upto_region 4 with (first
    | (go_at_call 76; refine (toGoal_c m ad ak cd ck _ (hm.later HB1.out) OK.out).mono ?_; rintro e w2 ⟨rfl, hb2⟩; rw [HGG.out]; have HB2 : Hid (Below w.heap.size w w2) := below_then HB1.out hb2; have HB12 : Hid (Below w1.heap.size w1 w2) := hb2; have hst : (storeCells ⟨w2.heap.size + 1, 0, none⟩ (ints G)).run Try.prog ((w2.alloc (.cells #[] 3)).alloc (.cells (ints zer).toArray 80)) = .ok () (((w2.alloc (.cells #[] 3)).alloc (.cells (ints zer).toArray 80)).setCells (w2.heap.size + 1) 0 (ints G)) := run_store_grid _ _ HGL.out (by have h := (GrA.new (w2.alloc (.cells #[] 3)) 80 zer_len).there; have e : (w2.alloc (.cells #[] 3)).heap.size = w2.heap.size + 1 := (by simp); rw [e] at h; exact h))
    | (refine wpList_alloc_z _ rfl 80 rfl _ HZG.out.1 ?_))
  obtain ⟨W0, hW0⟩ : ∃ W0, W0 = w2.alloc (.cells #[] 3) := ⟨_, rfl⟩
  have hz0 : W0.heap.size = w2.heap.size + 1 := by rw [hW0]; simp
  have hzw2 := HB2.out.size
  have ho0 : W0.ownsRow w1.heap.size 3 1 (.slice (some ⟨w2.heap.size, 0, none⟩) 0 0) 0 (ints []) := by
    rw [hW0]
    exact World.ownsRow_lit (base := w1.heap.size) (e := 3) (size := 1) w2 #[] 0 HB12.out.size (by unfold maxLen; omega) rfl
  have hb12 := HB12.out
  have hb0 : Below w1.heap.size w1 W0 := by rw [hW0]; exact hb12.alloc hb12.size _
  rw [← hW0]
  have hgn := GrA.new W0 80 zer_len
  rw [hz0] at hgn
  have hG1 : GrA ((W0.alloc (.cells (ints zer).toArray 80)).setCells (w2.heap.size + 1) 0 (ints G)) (w2.heap.size + 1) G := GrA.of HGL.out hgn.there hgn.lt
  have hgr := grown_setCells (w2.heap.size + 1) (ints G) 0 (W0.alloc (.cells (ints zer).toArray 80))
  have hA0 : Below W0.heap.size W0 (W0.alloc (.cells (ints zer).toArray 80)) := (Below.refl _ _).alloc (Nat.le_refl _) _
  have ho1 := own_grownW (own_belowW ho0 hA0) hgr (by omega)
  have hz12 := hb12.size
  have hb1' : Below w1.heap.size w1 ((W0.alloc (.cells (ints zer).toArray 80)).setCells (w2.heap.size + 1) 0 (ints G)) := Below.grown (hb0.trans (hA0.mono (by omega))) hgr (by simp; omega) (fun b hb => by cases hb; omega)
  obtain ⟨W1, hW1⟩ : ∃ W1, W1 = ((W0.alloc (.cells (ints zer).toArray 80)).setCells (w2.heap.size + 1) 0 (ints G)) := ⟨_, rfl⟩
  have hzW1 : w2.heap.size + 2 ≤ W1.heap.size := by rw [hW1, size_setCells]; simp; omega
  rw [← hW1] at hG1 ho1 hb1' ⊢
  have HG1 := Lib.hid hG1
  have HO1 := Lib.hid ho1
  have HBB : Hid (Below w1.heap.size w1 W1) := hb1'
  have HBW : Hid (Below w.heap.size w W1) := below_then HB1.out hb1'
  clear hW0 hz0 ho0 hb0 hgn hgr hA0 ho1 hb1' hW1 hG1 hst hb12
  have hg0 := HG1.out.cell 0 (by omega)
  rw [HGE.out 0 (by omega), ← HC0.out] at hg0
  go_wp2_with (go_at_call 86; refine (within_c (cn : Int) 0 60 _).mono ?_; rintro e w4 ⟨rfl, rfl⟩; rw [HB2'.out])
  clear hg0
  have HQ1 : Hid (∀ W, Below w1.heap.size w1 W → W.cell? ⟨w.heap.size, 0, none⟩ = some (.int .i64 m.size) ∧ W.cell? ⟨w.heap.size, 1, none⟩ = some (.slice ad m.gates.length cd) ∧ W.cell? ⟨w.heap.size, 2, none⟩ = some (.slice ak m.pulls.length ck) ∧ Below w.heap.size w W) := fun W hW => ⟨(hW.cell (p := ⟨w.heap.size, 0, none⟩) z1).trans q0, (hW.cell (p := ⟨w.heap.size, 1, none⟩) z1).trans q1, (hW.cell (p := ⟨w.heap.size, 2, none⟩) z1).trans q2, below_then HB1.out hW⟩
  clear q0 q1 q2
  go_loopg [6, 7, 5] (cn + 1) (fun nn xv lv tv wr => ∃ (k g c : Nat), nn = cn + 1 - k ∧ k ≤ cn ∧ xv = .int .i64 ((planS m k).2.1 : Nat) ∧ lv = .int .i64 ((planS m k).2.2 : Nat) ∧ tv = .slice (some ⟨g, 0, none⟩) k c ∧ g ≠ w2.heap.size + 1 ∧ w2.heap.size + 2 ≤ wr.heap.size ∧ Hid (wr.ownsRow w1.heap.size 3 1 (.slice (some ⟨g, 0, none⟩) k c) k (ints (planS m k).1)) ∧ Hid (GrA wr (w2.heap.size + 1) G) ∧ Hid (Below w1.heap.size w1 wr))
  case atStart => exact ⟨0, w2.heap.size, 0, rfl, Nat.zero_le _, rfl, rfl, rfl, by omega, hzW1, HO1, HG1, HBB⟩
  case round =>
    clear HO1 HG1 HBB hzW1
    obtain ⟨wo, rfl⟩ : ∃ wo : World, wo = wr := ⟨_, rfl⟩
    obtain ⟨k, g, c, hgk, hk, rfl, rfl, rfl, hgne, hzo, HO, HG, HB⟩ := hrel
    obtain ⟨hxs, hl, hgdk, hpl⟩ := HPL.out k hk
    obtain ⟨x, hxe⟩ : ∃ x, x = (planS m k).2.1 := ⟨_, rfl⟩
    obtain ⟨l, hle⟩ : ∃ l, l = (planS m k).2.2 := ⟨_, rfl⟩
    rw [← hxe] at hxs hgdk ⊢
    rw [← hle] at hl hgdk ⊢
    have HXE := Lib.hid hxe
    have HLE := Lib.hid hle
    have HPLL := Lib.hid hpl
    have HGK := Lib.hid hgk
    have hx12 : x < 12 := by have := OK.out.s2; omega
    have hxI : (x : Int) < 12 := by omega
    have hlI : (l : Int) < 64 := by omega
    have ecl := HG.out.cell (x * 64 + l) (by omega)
    rw [HGE.out _ (by omega), hgdk] at ecl
    have HGD := Lib.hid hgdk
    clear hxe hle hpl hgk hgdk
    by_cases hlt : k < cn
    · obtain ⟨d, hdd⟩ : ∃ d : Nat, cn - k = d + 1 := ⟨cn - k - 1, by omega⟩
      have hdI : (cn : Int) - (k : Int) = (d : Int) + 1 := by omega
      rw [hdI] at ecl
      have HEC := Lib.hid ecl
      have hI := HFI.out x l hxs hl (by rw [HGD.out]; omega)
      obtain ⟨A, hA⟩ : ∃ A, A = actsL m (x : Nat) (l : Nat) := ⟨_, rfl⟩
      have hAl : A.length ≤ 41 := by rw [hA]; exact actsL_leS m x l
      rw [← hA] at hI
      obtain ⟨J, hJ⟩ : ∃ J, J = fstI m x l := ⟨_, rfl⟩
      rw [← hJ] at hI
      have HAA := Lib.hid hA
      have HJJ := Lib.hid hJ
      obtain ⟨p0, p1, p2, -⟩ := HQ1.out wo HB.out
      have hdn60 : d ≤ 60 := by omega
      clear hA hJ hdd
      go_wp2_with (go_at_call 77; refine (acts_c _ m x l _ (hm.later (HQ1.out wo HB.out).2.2.2) OK.out hxs hl).mono ?_; rintro e w5 ⟨u5, rfl, ho5, hb5⟩; rw [← HAA.out] at ho5; obtain ⟨a5, c5, rfl⟩ := own_slice ho5; have HI5 : Hid (IC w5 a5 A) := ic_of (Own.of ho5); have HB5 : Hid (Below wo.heap.size wo w5) := hb5; clear ho5 hb5)
      go_loopw [34, 6, 7, 5] (fun jv xv lv tv wr => ∃ j : Nat, jv = .int .i64 j ∧ j ≤ J ∧ xv = .int .i64 (x : Nat) ∧ lv = .int .i64 (l : Nat) ∧ tv = .slice (some ⟨g, 0, none⟩) k c ∧ Hid (Below wo.heap.size wo wr) ∧ Hid (IC wr a5 A)) (fun jv _ _ _ _ => A.length - (intOf jv).toNat)
      case atStart => exact ⟨0, rfl, Nat.zero_le _, rfl, rfl, rfl, HB5, HI5⟩
      case round =>
        clear HB5 HI5 p0 p1 p2 ecl
        obtain ⟨wi, rfl⟩ : ∃ wi : World, wi = wr := ⟨_, rfl⟩
        obtain ⟨j, rfl, hj, rfl, rfl, rfl, HBI, HIA⟩ := hrel
        have hjA : j < A.length := by omega
        have hjI : (j : Int) < (A.length : Int) := by omega
        obtain ⟨b8, off8, av, rfl, HX, hbs8, e8⟩ := HIA.out.at j hjA
        have hmem : av ∈ actsL m (x : Nat) (l : Nat) := by rw [← HAA.out, ← HX.out, getElem!_pos A j hjA]; exact List.getElem_mem hjA
        obtain ⟨y, q, hd2, hy, hq, hst2⟩ := do_nat OK.out hxs hl hmem
        have hy12 : y < 12 := by have := OK.out.s2; omega
        have hyI : (y : Int) < 12 := by omega
        have hqI : (q : Int) < 64 := by omega
        have HD2 := Lib.hid hd2
        have HBJ : Hid (Below w1.heap.size w1 wi) := HB.out.trans (HBI.out.mono HB.out.size)
        obtain ⟨p0, p1, p2, pw⟩ := HQ1.out wi HBJ.out
        have PW := Lib.hid pw
        clear pw
        obtain ⟨gv, hgv⟩ : ∃ gv, gv = gd (y * 64 + q) := ⟨_, rfl⟩
        have HOKA : Hid (okA m x l av = decide (gv = (d : Int))) := by
          show _ = _
          rw [HOK.out, hst2, HGD.out, hdI, hgv]
          rw [show ((d : Int) + 1 - 1) = (d : Int) from by omega]
        have HGV := Lib.hid hgv
        have HMM := Lib.hid hmem
        clear hmem hst2 hgv hd2
        go_upto_region 11 with (go_at_call 78; refine (behind_c _ m x l av _ (hm.later PW.out) OK.out hxs hl).mono ?_; rintro e w6 ⟨rfl, hb6⟩; rw [HD2.out])
        have HB6 : Hid (Below wi.heap.size wi w6) := below_then (by (repeat (first | exact Below.refl _ _ | apply Below.drew | apply below_drewN | (refine Below.setCell ?_ (by first | omega | (simp; done) | (simp; omega) | (dsimp only; omega)) _) | (refine Below.alloc ?_ (by first | omega | (simp; done) | (simp; omega) | (dsimp only; omega)) _)))) hb6
        have HB06 : Hid (Below wo.heap.size wo w6) := HBI.out.trans (HB6.out.mono HBI.out.size)
        have HG6 : Hid (GrA w6 (w2.heap.size + 1) G) := HG.out.later HB06.out
        have e1 := HG6.out.cell (y * 64 + q) (by omega)
        rw [HGE.out _ (by omega), ← HGV.out] at e1
        have e2 := HG6.out.cell (x * 64 + l) (by omega)
        rw [HGE.out _ (by omega), HGD.out, hdI] at e2
        have hcw : IntKind.i64.wrap (d : Int) = (d : Int) := by rw [IntKind.wrap_i64]; omega
        have hcv : (d : Int) + 1 - 1 = (d : Int) := by omega
        clear hb6 p0 p1 p2
        go_region_held3 (fun W => W.cell? ⟨w2.heap.size + 1, y * 64 + q, none⟩ = some (.int .i64 gv) ∧ W.cell? ⟨w2.heap.size + 1, x * 64 + l, none⟩ = some (.int .i64 ((d : Int) + 1)))
          (exact ⟨e1, e2⟩)
          (fail)
        have hd6 : Below w6.heap.size w6 w6.drew := (Below.refl _ _).drew
        have HB7 : Hid (Below wo.heap.size wo w6.drew) := HB06.out.trans (hd6.mono HB06.out.size)
        by_cases hjJ : j < J
        · have hno := fstI_no (m := m) (x := x) (l := l) (j := j) (by rw [← HJJ.out]; exact hjJ) (by rw [← HAA.out]; exact hjA)
          rw [← HAA.out, HX.out, HOKA.out] at hno
          have hno3 : ¬ (gv = (d : Int)) := by simpa using hno
          have hno2 : (gv == (d : Int)) = false := by simp [hno3]
          have HI7 : Hid (IC w6.drew (some ⟨b8, off8, none⟩) A) := (HIA.out.later HB6.out).later hd6
          obtain ⟨bb, hbb⟩ : ∃ bb, bb = (gv == (d : Int)) := ⟨_, rfl⟩
          rw [← hbb]
          rw [hno2] at hbb
          subst hbb
          clear hno e1 e2 hd6 hno2 hno3 hcw hcv hdI
          go_wp2
          go_roundw
          case rel => exact ⟨j + 1, by go_num, by omega, rfl, rfl, rfl, HB7, HI7⟩
          case measure => simp [intOf]; omega
        · obtain rfl : j = J := by omega
          have hyes := fstI_ok (m := m) (x := x) (l := l) (by rw [← HJJ.out, ← HAA.out]; exact hjA)
          rw [← HAA.out, ← HJJ.out, HX.out, HOKA.out] at hyes
          have hyes2 : gv = (d : Int) := by simpa using hyes
          have hyes3 : (gv == (d : Int)) = true := by simp [hyes2]
          have HFA : Hid (fstA m x l = av) := by show _ = _; unfold fstA; rw [← HAA.out, ← HJJ.out, HX.out]
          have HNX : Hid ((planS m (k + 1)).1 = (planS m k).1 ++ [av] ∧ (planS m (k + 1)).2.1 = y ∧ (planS m (k + 1)).2.2 = q) := by
            refine ⟨?_, ?_, ?_⟩
            · show (planS m k).1 ++ [fstA m (planS m k).2.1 (planS m k).2.2] = _
              rw [← HXE.out, ← HLE.out, HFA.out]
            · show (doP m (planS m k).2.1 (planS m k).2.2 (fstA m (planS m k).2.1 (planS m k).2.2)).1.toNat = _
              rw [← HXE.out, ← HLE.out, HFA.out, HD2.out]; simp
            · show (doP m (planS m k).2.1 (planS m k).2.2 (fstA m (planS m k).2.1 (planS m k).2.2)).2.toNat = _
              rw [← HXE.out, ← HLE.out, HFA.out, HD2.out]; simp
          have HO7 : Hid (w6.drew.ownsRow w1.heap.size 3 1 (.slice (some ⟨g, 0, none⟩) k c) k (ints (planS m k).1)) := own_belowW HO.out HB7.out
          have HG7 : Hid (GrA w6.drew (w2.heap.size + 1) G) := HG.out.later HB7.out
          obtain ⟨w7, hw7⟩ : ∃ w7, w7 = w6.drew := ⟨_, rfl⟩
          rw [← hw7] at HO7 HG7 HB7 ⊢
          have hz7 := HB7.out.size
          have HOA : Hid ((w7.alloc (.cells #[.int .i64 av] 3)).ownsRow w1.heap.size 3 1 (.slice (some ⟨g, 0, none⟩) k c) k (ints (planS m k).1)) := own_belowW HO7.out ((Below.refl _ _).alloc (Nat.le_refl _) _)
          have hww := HB1.out.size
          have hwo1 := HB.out.size
          obtain ⟨bb, hbb⟩ : ∃ bb, bb = (gv == (d : Int)) := ⟨_, rfl⟩
          rw [← hbb]
          rw [hyes3] at hbb
          subst hbb
          clear hyes e1 e2 hd6 hw7 HO7 hyes2 hyes3 hcw hcv hdI
          go_wp2_with (at_builtin; refine wpList_append_lies _ rfl _ _ 23 rfl w1.heap.size 3 i0 (.int .i64 0) 1 8 Try.underlying23 ji jz0 jz1 jz2 rfl (by decide) (.slice (some ⟨g, 0, none⟩) k c) _ _ rfl HOA.out ⟨w7.heap.size, 0, none⟩ 1 1 [.int .i64 av] rfl rfl ?_ ?_ (by omega) ?_ ?_ ?_ (w7.heap.size + 1) ?_ ?_; (exact cell_one_new _ _ _); (simp [Value.oneCell']); (unfold maxLen; omega); omega; (simp; omega); (simp); intro g9 c9 w9 hown9 hgrow9 hat9 hlt9)
          have hA9 : Below w7.heap.size w7 (w7.alloc (.cells #[.int .i64 av] 3)) := (Below.refl _ _).alloc (Nat.le_refl _) _
          have hg9 : g9 = g ∨ g9 = w7.heap.size + 1 := by rcases hat9 with h | h <;> first | exact .inr h | (left; symm; simpa [Value.ownBlock] using h)
          have hgr9 : World.grownBy (w7.alloc (.cells #[.int .i64 av] 3)) w9 (some g) := hgrow9
          have HG9 : Hid (GrA w9 (w2.heap.size + 1) G) := (HG7.out.later hA9).grown hgr9 (by simp; omega)
          have HO9 : Hid (w9.ownsRow w1.heap.size 3 1 (.slice (some ⟨g9, 0, none⟩) (k + 1) c9) (k + 1) (ints (planS m (k + 1)).1)) := by rw [HNX.out.1, ints_snoc]; exact hown9
          have hz9 : w7.heap.size + 1 ≤ w9.heap.size := by have := hgr9.size; simpa using this
          have hglo : w1.heap.size ≤ g := own_block_lo HO.out (g := g) rfl
          have HB9 : Hid (Below w1.heap.size w1 w9) := Below.grown ((HB.out.trans (HB7.out.mono HB.out.size)).trans (hA9.mono (by omega))) hgr9 (by simp; omega) (fun b hb => by cases hb; exact hglo)
          clear hown9 hgrow9 hat9 hgr9 HG7 HOA
          go_wp2
          go_roundg (cn + 1 - (k + 1))
          case measure => rw [HGK.out]; omega
          case rel => exact ⟨k + 1, g9, c9, rfl, by omega, by rw [HNX.out.2.1], by rw [HNX.out.2.2], rfl, by omega, by omega, HO9, HG9, HB9⟩
    · obtain rfl : k = cn := by omega
      have ecl0 : wo.cell? ⟨w2.heap.size + 1, x * 64 + l, none⟩ = some (.int .i64 0) := by rw [ecl]; congr 2; omega
      clear ecl
      have HRL : Hid (w.heap.size ≤ wo.heap.size ∧ R.length = k) := ⟨(HQ1.out wo HB.out).2.2.2.size, by rw [← HR.out]; exact HPLL.out⟩
      have HOF : Hid (wo.ownsRow w.heap.size 3 1 (.slice (some ⟨g, 0, none⟩) k c) R.length (ints R)) := by rw [HRL.out.2, ← HR.out]; exact (Own.mono (Own.of HO.out) HB1.out.size (Nat.le_refl _)).row
      go_wp2
      go_ret2
      exact ⟨_, rfl, HOF.out, (HQ1.out wo HB.out).2.2.2⟩
end Go.Proofs.Ytkhackdbnmcffaa
