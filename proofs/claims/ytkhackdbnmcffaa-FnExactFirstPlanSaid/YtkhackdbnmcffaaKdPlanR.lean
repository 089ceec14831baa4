/- FirstPlan: the reference's. -/
import Derived.Test.YtkhackdbnmcffaaKdFew
import Derived.Test.YtkhackdbnmcffaaKdPlanF
set_option linter.unusedVariables false
set_option linter.unusedSimpArgs false
namespace Go.Proofs.Ytkhackdbnmcffaa
open Go.RowKit Go.KD
attribute [local go_sem] later_cell later_frozen
set_option maxRecDepth 100000 in
set_option maxHeartbeats 16000000 in
theorem specFirstPlan_c (v : Value) (m : Wk) (w : World) (R : List Int) (b : Bool) (hp : pFirstPlan m = (R, b)) (hm : WkAt w v m) : Calls Try.prog 29 #[v] w fun e w' => ∃ aw cw, e = .returned (.tuple #[.slice aw R.length cw, .bool b]) ∧ IC w' aw R ∧ Below w.heap.size w w' := by
  have hM := hm
  obtain ⟨⟨ad, cd, ak, ck, rfl, hd, hk'⟩, nd, nk⟩ := hM
  obtain ⟨i0, ji, jz0, jz1, jz2⟩ := info_parts infoI
  cases b1 : worksB m
  case false =>
    have hp' : pFirstPlan m = ([], false) := by simp [pFirstPlan, b1]
    have HPF : Hid (pFewestActs m = (0, false)) := by show _ = _; simp [pFewestActs, b1]
    rw [hp'] at hp
    cases hp
    clear hp'
    go_enter Try.func29, Try.ntmps29
    go_wp2_with (go_at_call 19; refine (specFewestActs_c _ m _ (hm.later (by (repeat (first | exact Below.refl _ _ | apply Below.drew | apply below_drewN | (refine Below.setCell ?_ (by first | omega | (simp; done) | (simp; omega) | (dsimp only; omega)) _) | (refine Below.alloc ?_ (by first | omega | (simp; done) | (simp; omega) | (dsimp only; omega)) _)))))).mono ?_; rintro e w1 ⟨rfl, hb1⟩; rw [HPF.out]; have HE1 : Hid (Below (w.heap.size + 2) ((w.alloc (.cells #[.int .i64 m.size, .slice ad m.gates.length cd, .slice ak m.pulls.length ck] 29)).alloc (.cells #[] 3)) w1) := hb1.mono (by simp); have HB1 : Hid (Below w.heap.size w w1) := below_then (by (repeat (first | exact Below.refl _ _ | apply Below.drew | apply below_drewN | (refine Below.setCell ?_ (by first | omega | (simp; done) | (simp; omega) | (dsimp only; omega)) _) | (refine Below.alloc ?_ (by first | omega | (simp; done) | (simp; omega) | (dsimp only; omega)) _)))) hb1; clear hb1)
    go_ret2
    exact ⟨_, _, rfl, fun k hk => by simp at hk, HB1.out⟩
  have OK := Lib.hid (worksB_true.1 b1)
  obtain ⟨n, hn⟩ : ∃ n, n = m.pulls.length * 64 := ⟨_, rfl⟩
  obtain ⟨gd, hgd⟩ : ∃ gd : Nat → Int, gd = goalD m := ⟨_, rfl⟩
  have HFI : Hid (∀ x l : Nat, (x : Int) < m.size → l < 64 → 0 < gd (x * 64 + l) → fstI m x l < (actsL m (x : Nat) (l : Nat)).length) := by rw [hgd]; exact fun x l h1 h2 h3 => fstI_lt OK.out h1 h2 h3
  have HOK : Hid (∀ (x l : Nat) (a : Int), okA m x l a = decide (gd (wSt m x l a) = gd (x * 64 + l) - 1)) := by rw [hgd]; exact fun _ _ _ => rfl
  have HSP : Hid (∀ y q : Nat, (y : Int) < m.size → q < 64 → ∃ E : List Bn, (∀ W, WkAt W (.agg #[.int .i64 m.size, .slice ad m.gates.length cd, .slice ak m.pulls.length ck]) m → Calls Try.prog 65 #[(.agg #[.int .i64 m.size, .slice ad m.gates.length cd, .slice ak m.pulls.length ck]), .int .i64 y, .int .i64 q, .bool false] W fun e w' => ∃ a c, e = .returned (.slice (some ⟨a, 0, none⟩) n c) ∧ IC w' (some ⟨a, 0, none⟩) (gridN n E) ∧ Below W.heap.size W w') ∧ lstK (fun s => (gridN n E)[(m.pulls.length - 1) * 64 + s]!) 64 = gd (y * 64 + q)) := by
    intro y q hy hq
    refine ⟨bfF (nxW m) [((y * 64 + q, 0) : Bn)], fun W hW => l8Spread_c m ad ak cd ck y q n W hW OK.out hy hq hn, ?_⟩
    rw [hgd]
    exact goal_grid OK.out (by have := OK.out.s2; omega) hn
  obtain ⟨c0, hc0⟩ : ∃ c0, c0 = gd 0 := ⟨_, rfl⟩
  have hpp : pFirstPlan m = if inB c0 0 60 then ((planS m c0.toNat).1, true) else ([], false) := by simp [pFirstPlan, b1, hc0, hgd]
  have hpf : pFewestActs m = (if 0 ≤ c0 then c0 else 0, decide (0 ≤ c0)) := by simp [pFewestActs, b1, hc0, hgd]
  rw [hpp] at hp
  have hPL : ∀ k : Nat, (k : Int) ≤ c0 → (((planS m k).2.1 : Nat) : Int) < m.size ∧ (planS m k).2.2 < 64 ∧ gd ((planS m k).2.1 * 64 + (planS m k).2.2) = c0 - k ∧ (planS m k).1.length = k := by rw [hc0, hgd]; exact plan_ok OK.out
  have HN := Lib.hid hn
  clear hc0 hpp hgd hn
  cases b2 : inB c0 0 60
  case false =>
    rw [b2] at hp
    cases hp
    by_cases h0 : 0 ≤ c0
    · have h60 : (60 : Int) < c0 := by
        rcases Int.lt_or_le 60 c0 with h | h
        · exact h
        · have := inB_true.2 ⟨h0, h⟩; rw [b2] at this; cases this
      rw [if_pos h0, decide_eq_true h0] at hpf
      have HPF := Lib.hid hpf
      have h60b : decide ((60 : Int) < c0) = true := decide_eq_true h60
      clear hpf b2 hPL
      go_enter Try.func29, Try.ntmps29
      go_wp2_with (go_at_call 19; refine (specFewestActs_c _ m _ (hm.later (by (repeat (first | exact Below.refl _ _ | apply Below.drew | apply below_drewN | (refine Below.setCell ?_ (by first | omega | (simp; done) | (simp; omega) | (dsimp only; omega)) _) | (refine Below.alloc ?_ (by first | omega | (simp; done) | (simp; omega) | (dsimp only; omega)) _)))))).mono ?_; rintro e w1 ⟨rfl, hb1⟩; rw [HPF.out]; have HE1 : Hid (Below (w.heap.size + 2) ((w.alloc (.cells #[.int .i64 m.size, .slice ad m.gates.length cd, .slice ak m.pulls.length ck] 29)).alloc (.cells #[] 3)) w1) := hb1.mono (by simp); have HB1 : Hid (Below w.heap.size w w1) := below_then (by (repeat (first | exact Below.refl _ _ | apply Below.drew | apply below_drewN | (refine Below.setCell ?_ (by first | omega | (simp; done) | (simp; omega) | (dsimp only; omega)) _) | (refine Below.alloc ?_ (by first | omega | (simp; done) | (simp; omega) | (dsimp only; omega)) _)))) hb1; clear hb1)
      go_ret2
      exact ⟨_, _, rfl, fun k hk => by simp at hk, HB1.out⟩
    · rw [if_neg h0, decide_eq_false h0] at hpf
      have HPF := Lib.hid hpf
      clear hpf b2 hPL
      go_enter Try.func29, Try.ntmps29
      go_wp2_with (go_at_call 19; refine (specFewestActs_c _ m _ (hm.later (by (repeat (first | exact Below.refl _ _ | apply Below.drew | apply below_drewN | (refine Below.setCell ?_ (by first | omega | (simp; done) | (simp; omega) | (dsimp only; omega)) _) | (refine Below.alloc ?_ (by first | omega | (simp; done) | (simp; omega) | (dsimp only; omega)) _)))))).mono ?_; rintro e w1 ⟨rfl, hb1⟩; rw [HPF.out]; have HE1 : Hid (Below (w.heap.size + 2) ((w.alloc (.cells #[.int .i64 m.size, .slice ad m.gates.length cd, .slice ak m.pulls.length ck] 29)).alloc (.cells #[] 3)) w1) := hb1.mono (by simp); have HB1 : Hid (Below w.heap.size w w1) := below_then (by (repeat (first | exact Below.refl _ _ | apply Below.drew | apply below_drewN | (refine Below.setCell ?_ (by first | omega | (simp; done) | (simp; omega) | (dsimp only; omega)) _) | (refine Below.alloc ?_ (by first | omega | (simp; done) | (simp; omega) | (dsimp only; omega)) _)))) hb1; clear hb1)
      go_ret2
      exact ⟨_, _, rfl, fun k hk => by simp at hk, HB1.out⟩
  have hb := b2
  rw [b2, if_pos rfl] at hp
  simp only [Prod.mk.injEq] at hp
  obtain ⟨hR, rfl⟩ := hp
  rw [inB_true] at hb
  rw [if_pos hb.1, decide_eq_true hb.1] at hpf
  have HPF := Lib.hid hpf
  obtain ⟨cn, hcn⟩ := Int.eq_ofNat_of_zero_le hb.1
  subst hcn
  have hcn60 : cn ≤ 60 := by omega
  have hcnI : (cn : Int) ≤ 60 := by omega
  rw [Int.toNat_natCast] at hR
  have HR := Lib.hid hR
  have HPL : Hid (∀ k : Nat, k ≤ cn → (((planS m k).2.1 : Nat) : Int) < m.size ∧ (planS m k).2.2 < 64 ∧ gd ((planS m k).2.1 * 64 + (planS m k).2.2) = (cn : Int) - k ∧ (planS m k).1.length = k) := fun k hk => hPL k (by omega)
  have h60b : decide ((60 : Int) < (cn : Int)) = false := by simp; omega
  clear b2 hb hR hPL hpf
  go_enter Try.func29, Try.ntmps29
  go_wp2_with (go_at_call 19; refine (specFewestActs_c _ m _ (hm.later (by (repeat (first | exact Below.refl _ _ | apply Below.drew | apply below_drewN | (refine Below.setCell ?_ (by first | omega | (simp; done) | (simp; omega) | (dsimp only; omega)) _) | (refine Below.alloc ?_ (by first | omega | (simp; done) | (simp; omega) | (dsimp only; omega)) _)))))).mono ?_; rintro e w1 ⟨rfl, hb1⟩; rw [HPF.out]; have HE1 : Hid (Below (w.heap.size + 2) ((w.alloc (.cells #[.int .i64 m.size, .slice ad m.gates.length cd, .slice ak m.pulls.length ck] 29)).alloc (.cells #[] 3)) w1) := hb1.mono (by simp); have HB1 : Hid (Below w.heap.size w w1) := below_then (by (repeat (first | exact Below.refl _ _ | apply Below.drew | apply below_drewN | (refine Below.setCell ?_ (by first | omega | (simp; done) | (simp; omega) | (dsimp only; omega)) _) | (refine Below.alloc ?_ (by first | omega | (simp; done) | (simp; omega) | (dsimp only; omega)) _)))) hb1; clear hb1)
  have ho0 : (((w.alloc (.cells #[.int .i64 m.size, .slice ad m.gates.length cd, .slice ak m.pulls.length ck] 29)).alloc (.cells #[] 3))).ownsRow (w.heap.size + 1) 3 1 (.slice (some ⟨w.heap.size + 1, 0, none⟩) 0 0) 0 (ints []) := by
    have := World.ownsRow_lit (base := w.heap.size + 1) (e := 3) (size := 1) (w.alloc (.cells #[.int .i64 m.size, .slice ad m.gates.length cd, .slice ak m.pulls.length ck] 29)) #[] 0 (by simp) (by unfold maxLen; omega) rfl
    simpa [ints] using this
  have HO1 : Hid (w1.ownsRow (w.heap.size + 1) 3 1 (.slice (some ⟨w.heap.size + 1, 0, none⟩) 0 0) 0 (ints [])) := own_belowW ho0 (HE1.out.mono (by simp))
  have HX1 : Hid (Below (w.heap.size + 1) (w.alloc (.cells #[.int .i64 m.size, .slice ad m.gates.length cd, .slice ak m.pulls.length ck] 29)) w1) := ((Below.refl _ _).alloc (by simp) _).trans (HE1.out.mono (by omega))
  clear ho0
  go_loopg [4, 7, 8] (cn + 1) (fun nn tv xv lv wr => ∃ (k g c : Nat), nn = cn + 1 - k ∧ k ≤ cn ∧ tv = .slice (some ⟨g, 0, none⟩) k c ∧ xv = .int .i64 ((planS m k).2.1 : Nat) ∧ lv = .int .i64 ((planS m k).2.2 : Nat) ∧ Hid (wr.ownsRow (w.heap.size + 1) 3 1 (.slice (some ⟨g, 0, none⟩) k c) k (ints (planS m k).1)) ∧ Hid (Below (w.heap.size + 1) (w.alloc (.cells #[.int .i64 m.size, .slice ad m.gates.length cd, .slice ak m.pulls.length ck] 29)) wr))
  case atStart => exact ⟨0, w.heap.size + 1, 0, rfl, Nat.zero_le _, rfl, rfl, rfl, HO1, HX1⟩
  case round =>
    clear HO1 HX1
    obtain ⟨wo, rfl⟩ : ∃ wo : World, wo = wr := ⟨_, rfl⟩
    obtain ⟨k, g, c, hgk, hk, rfl, rfl, rfl, HO, HX⟩ := hrel
    obtain ⟨hxs, hl, hgdk, hpl⟩ := HPL.out k hk
    obtain ⟨x, hxe⟩ : ∃ x, x = (planS m k).2.1 := ⟨_, rfl⟩
    obtain ⟨l, hle⟩ : ∃ l, l = (planS m k).2.2 := ⟨_, rfl⟩
    rw [← hxe] at hxs hgdk ⊢
    rw [← hle] at hl hgdk ⊢
    have HXE := Lib.hid hxe
    have HLE := Lib.hid hle
    have HPLL := Lib.hid hpl
    have HGK := Lib.hid hgk
    have HGD := Lib.hid hgdk
    have HBW : Hid (Below w.heap.size w wo) := below_boxW HX.out (by omega)
    clear hxe hle hpl hgk hgdk
    obtain ⟨q0, q1, q2, z1⟩ := box3W HX.out (by omega)
    by_cases hlt : k < cn
    · have hkI : (k : Int) < (cn : Int) := by omega
      obtain ⟨d, hdd⟩ : ∃ d : Nat, cn - k = d + 1 := ⟨cn - k - 1, by omega⟩
      have hI := HFI.out x l hxs hl (by rw [HGD.out]; omega)
      obtain ⟨A, hA⟩ : ∃ A, A = actsL m (x : Nat) (l : Nat) := ⟨_, rfl⟩
      have hAl : A.length ≤ 41 := by rw [hA]; exact actsL_leS m x l
      rw [← hA] at hI
      obtain ⟨J, hJ⟩ : ∃ J, J = fstI m x l := ⟨_, rfl⟩
      rw [← hJ] at hI
      have HAA := Lib.hid hA
      have HJJ := Lib.hid hJ
      have hdI : (cn : Int) - (k : Int) = (d : Int) + 1 := by omega
      have HDI := Lib.hid hdI
      have hdn60 : d ≤ 60 := by omega
      clear hA hJ hdd hdI
      go_wp2_with (go_at_call 84; refine (l8ActsB_c _ m x l _ (hm.later HBW.out) OK.out hxs hl).mono ?_; rintro e w5 ⟨u5, rfl, ⟨b8, off8, c8, rfl, hi8, hc8, hcm8, hb8⟩, hb5⟩; rw [← HAA.out] at hi8 hc8 ⊢; have HI5 := Lib.hid hi8; have HB5 : Hid (Below wo.heap.size wo w5) := hb5; clear hi8 hb5 hb8 hcm8)
      clear q0 q1 q2
      go_loopw [10] (fun jv wr => ∃ j : Nat, jv = .int .i64 j ∧ j ≤ J ∧ Hid (Below wo.heap.size wo wr) ∧ Hid (IC wr (some ⟨b8, off8, none⟩) A)) (fun jv _ => A.length - (intOf jv).toNat)
      case atStart => exact ⟨0, rfl, Nat.zero_le _, HB5, HI5⟩
      case round =>
        clear HB5 HI5
        obtain ⟨wi, rfl⟩ : ∃ wi : World, wi = wr := ⟨_, rfl⟩
        obtain ⟨j, rfl, hj, HBI, HIA⟩ := hrel
        have hjA : j < A.length := by omega
        have hjI : (j : Int) < (A.length : Int) := by omega
        obtain ⟨b9, off9, av, he9, HXA, hbs8, e8⟩ := HIA.out.at j hjA
        cases he9
        have hmem : av ∈ actsL m (x : Nat) (l : Nat) := by rw [← HAA.out, ← HXA.out, getElem!_pos A j hjA]; exact List.getElem_mem hjA
        obtain ⟨y, q, hd2, hy, hq, hst2⟩ := do_nat OK.out hxs hl hmem
        have HD2 := Lib.hid hd2
        have HXI : Hid (Below (w.heap.size + 1) (w.alloc (.cells #[.int .i64 m.size, .slice ad m.gates.length cd, .slice ak m.pulls.length ck] 29)) wi) := HX.out.trans (HBI.out.mono (by omega))
        have HBWI : Hid (Below w.heap.size w wi) := below_boxW HXI.out (by omega)
        obtain ⟨p0, p1, p2, pz⟩ := box3W HXI.out (by omega)
        have HS2 : Hid (∀ W, Below wi.heap.size wi W → W.cell? ⟨w.heap.size, 0, none⟩ = some (.int .i64 m.size) ∧ W.cell? ⟨w.heap.size, 1, none⟩ = some (.slice ad m.gates.length cd) ∧ W.cell? ⟨w.heap.size, 2, none⟩ = some (.slice ak m.pulls.length ck) ∧ W.cell? ⟨b8, off8 + j, none⟩ = some (.int .i64 av)) := fun W hW => ⟨(hW.cell (p := ⟨w.heap.size, 0, none⟩) pz).trans p0, (hW.cell (p := ⟨w.heap.size, 1, none⟩) pz).trans p1, (hW.cell (p := ⟨w.heap.size, 2, none⟩) pz).trans p2, (hW.cell (p := ⟨b8, off8 + j, none⟩) hbs8).trans e8⟩
        obtain ⟨gv, hgv⟩ : ∃ gv, gv = gd (y * 64 + q) := ⟨_, rfl⟩
        have HOKA : Hid (okA m x l av = decide (gv = (d : Int))) := by
          show _ = _
          rw [HOK.out, hst2, HGD.out, HDI.out, hgv]
          rw [show ((d : Int) + 1 - 1) = (d : Int) from by omega]
        obtain ⟨E, hsp, hsg⟩ := HSP.out y q hy hq
        rw [← hgv] at hsg
        have HSPE := Lib.hid hsp
        have HSG := Lib.hid hsg
        have hsz12 := OK.out.s2
        clear hmem hst2 hgv hd2 p0 p1 p2 e8 hsp hsg
        go_upto_region 8 with fail
        go_region_held3 (fun W => W.cell? ⟨w.heap.size, 0, none⟩ = some (.int .i64 m.size) ∧ W.cell? ⟨w.heap.size, 1, none⟩ = some (.slice ad m.gates.length cd) ∧ W.cell? ⟨w.heap.size, 2, none⟩ = some (.slice ak m.pulls.length ck) ∧ W.cell? ⟨b8, off8 + j, none⟩ = some (.int .i64 av))
          (exact HS2.out _ (by repeat (first | exact Below.refl _ _ | exact HB6.out | apply Below.drew | apply below_drewN | (refine Below.setCell ?_ (by first | omega | (simp; done) | (simp; omega) | (dsimp only; omega)) _) | (refine Below.alloc ?_ (by first | omega | (simp; done) | (simp; omega) | (dsimp only; omega)) _))))
          ((go_at_call 85; refine (l8Do_c _ m x l av _ (hm.later (HBWI.out.trans (Below.mono (B := wi.heap.size) (by repeat (first | exact Below.refl _ _ | apply Below.drew | apply below_drewN | (refine Below.setCell ?_ (by first | omega | (simp; done) | (simp; omega) | (dsimp only; omega)) _) | (refine Below.alloc ?_ (by first | omega | (simp; done) | (simp; omega) | (dsimp only; omega)) _))) HBWI.out.size))) OK.out hxs hl).mono ?_; rintro e w6 ⟨rfl, hb6⟩; rw [HD2.out]; have HB6 : Hid (Below wi.heap.size wi w6) := Below.trans (by repeat (first | exact Below.refl _ _ | apply Below.drew | apply below_drewN | (refine Below.setCell ?_ (by first | omega | (simp; done) | (simp; omega) | (dsimp only; omega)) _) | (refine Below.alloc ?_ (by first | omega | (simp; done) | (simp; omega) | (dsimp only; omega)) _))) (hb6.mono (by first | exact Nat.le_refl _ | (simp; done) | (simp; omega))); clear hb6))
        all_goals
          have hwa : IntKind.i64.wrap ((cn : Int) - (k : Int)) = (d : Int) + 1 := by rw [HDI.out, IntKind.wrap_i64]; omega
          have hwb : IntKind.i64.wrap ((d : Int) + 1) = (d : Int) + 1 := by rw [IntKind.wrap_i64]; omega
          have hwc : IntKind.i64.wrap (d : Int) = (d : Int) := by rw [IntKind.wrap_i64]; omega
          go_upto_region 9 with fail
          go_region_held3 (fun W => W.cell? ⟨w.heap.size, 0, none⟩ = some (.int .i64 m.size) ∧ W.cell? ⟨w.heap.size, 1, none⟩ = some (.slice ad m.gates.length cd) ∧ W.cell? ⟨w.heap.size, 2, none⟩ = some (.slice ak m.pulls.length ck) ∧ W.cell? ⟨b8, off8 + j, none⟩ = some (.int .i64 av))
            (exact HS2.out _ (by repeat (first | exact Below.refl _ _ | exact HB8.out | exact HB7.out | exact HB6.out | apply Below.drew | apply below_drewN | (refine Below.setCell ?_ (by first | omega | (simp; done) | (simp; omega) | (dsimp only; omega)) _) | (refine Below.alloc ?_ (by first | omega | (simp; done) | (simp; omega) | (dsimp only; omega)) _))))
            (first
              | (go_at_call 65; refine (HSPE.out _ (hm.later (HBWI.out.trans (Below.mono (B := wi.heap.size) (by repeat (first | exact Below.refl _ _ | exact HB6.out | apply Below.drew | apply below_drewN | (refine Below.setCell ?_ (by first | omega | (simp; done) | (simp; omega) | (dsimp only; omega)) _) | (refine Below.alloc ?_ (by first | omega | (simp; done) | (simp; omega) | (dsimp only; omega)) _))) HBWI.out.size)))).mono ?_; rintro e w7 ⟨a7, c7, rfl, hi7, hb7⟩; have HI7 := Lib.hid hi7; have HB7 : Hid (Below wi.heap.size wi w7) := Below.trans (by repeat (first | exact Below.refl _ _ | exact HB6.out | apply Below.drew | apply below_drewN | (refine Below.setCell ?_ (by first | omega | (simp; done) | (simp; omega) | (dsimp only; omega)) _) | (refine Below.alloc ?_ (by first | omega | (simp; done) | (simp; omega) | (dsimp only; omega)) _))) (hb7.mono (by have := HB6.out.size; first | omega | (simp; omega))); clear hi7 hb7)
              | (go_at_call 74; refine (l8Goal_c m ad ak cd ck n _ _ (gridN n E) gv HSG.out _ OK.out HN.out (gridN_len _ _).symm (HI7.out.later (by (repeat (first | exact Below.refl _ _ | apply Below.drew | apply below_drewN | (refine Below.setCell ?_ (by first | omega | (simp; done) | (simp; omega) | (dsimp only; omega)) _) | (refine Below.alloc ?_ (by first | omega | (simp; done) | (simp; omega) | (dsimp only; omega)) _)))))).mono ?_; rintro e w8 ⟨rfl, hb8⟩; have HB8 : Hid (Below wi.heap.size wi w8) := Below.trans (by repeat (first | exact Below.refl _ _ | exact HB7.out | apply Below.drew | apply below_drewN | (refine Below.setCell ?_ (by first | omega | (simp; done) | (simp; omega) | (dsimp only; omega)) _) | (refine Below.alloc ?_ (by first | omega | (simp; done) | (simp; omega) | (dsimp only; omega)) _))) (hb8.mono (by have := HB7.out.size; first | omega | (simp; omega))); clear hb8))
          all_goals
            have HB08 : Hid (Below wo.heap.size wo w8) := HBI.out.trans (HB8.out.mono HBI.out.size)
            have HI8 : Hid (IC w8 (some ⟨b8, off8, none⟩) A) := HIA.out.later HB8.out
            obtain ⟨bb, hbb⟩ : ∃ bb, bb = (gv == (d : Int)) := ⟨_, rfl⟩
            rw [← hbb]
            by_cases hjJ : j < J
            · have hno := fstI_no (m := m) (x := x) (l := l) (j := j) (by rw [← HJJ.out]; exact hjJ) (by rw [← HAA.out]; exact hjA)
              rw [← HAA.out, HXA.out, HOKA.out] at hno
              have hno3 : ¬ (gv = (d : Int)) := by simpa using hno
              have hno2 : (gv == (d : Int)) = false := by simp [hno3]
              rw [hno2] at hbb
              subst hbb
              clear hno hno2 hno3 hwa hwb hwc
              go_wp2
              go_roundw
              case rel => exact ⟨j + 1, by go_num, by omega, HB08, HI8⟩
              case measure => simp [intOf]; omega
            · obtain rfl : j = J := by omega
              have hyes := fstI_ok (m := m) (x := x) (l := l) (by rw [← HJJ.out, ← HAA.out]; exact hjA)
              rw [← HAA.out, ← HJJ.out, HXA.out, HOKA.out] at hyes
              have hyes2 : gv = (d : Int) := by simpa using hyes
              have hyes3 : (gv == (d : Int)) = true := by simp [hyes2]
              rw [hyes3] at hbb
              subst hbb
              have HFA : Hid (fstA m x l = av) := by show _ = _; unfold fstA; rw [← HAA.out, ← HJJ.out, HXA.out]
              have HNX : Hid ((planS m (k + 1)).1 = (planS m k).1 ++ [av] ∧ (planS m (k + 1)).2.1 = y ∧ (planS m (k + 1)).2.2 = q) := by
                refine ⟨?_, ?_, ?_⟩
                · show (planS m k).1 ++ [fstA m (planS m k).2.1 (planS m k).2.2] = _
                  rw [← HXE.out, ← HLE.out, HFA.out]
                · show (doP m (planS m k).2.1 (planS m k).2.2 (fstA m (planS m k).2.1 (planS m k).2.2)).1.toNat = _
                  rw [← HXE.out, ← HLE.out, HFA.out, HD2.out]; simp
                · show (doP m (planS m k).2.1 (planS m k).2.2 (fstA m (planS m k).2.1 (planS m k).2.2)).2.toNat = _
                  rw [← HXE.out, ← HLE.out, HFA.out, HD2.out]; simp
              clear hyes hyes2 hyes3 hwa hwb hwc
              go_upto_region 11 with fail
              go_region_held3 (fun W => W.cell? ⟨w.heap.size, 0, none⟩ = some (.int .i64 m.size) ∧ W.cell? ⟨w.heap.size, 1, none⟩ = some (.slice ad m.gates.length cd) ∧ W.cell? ⟨w.heap.size, 2, none⟩ = some (.slice ak m.pulls.length ck) ∧ W.cell? ⟨b8, off8 + j, none⟩ = some (.int .i64 av))
                (exact HS2.out _ (by repeat (first | exact Below.refl _ _ | exact HB9.out | exact HB8.out | apply Below.drew | apply below_drewN | (refine Below.setCell ?_ (by first | omega | (simp; done) | (simp; omega) | (dsimp only; omega)) _) | (refine Below.alloc ?_ (by first | omega | (simp; done) | (simp; omega) | (dsimp only; omega)) _))))
                ((go_at_call 85; refine (l8Do_c _ m x l av _ (hm.later (HBWI.out.trans (Below.mono (B := wi.heap.size) (by repeat (first | exact Below.refl _ _ | exact HB8.out | apply Below.drew | apply below_drewN | (refine Below.setCell ?_ (by first | omega | (simp; done) | (simp; omega) | (dsimp only; omega)) _) | (refine Below.alloc ?_ (by first | omega | (simp; done) | (simp; omega) | (dsimp only; omega)) _))) HBWI.out.size))) OK.out hxs hl).mono ?_; rintro e w9 ⟨rfl, hb9⟩; rw [HD2.out]; have HB9 : Hid (Below wi.heap.size wi w9) := Below.trans (by repeat (first | exact Below.refl _ _ | exact HB8.out | apply Below.drew | apply below_drewN | (refine Below.setCell ?_ (by first | omega | (simp; done) | (simp; omega) | (dsimp only; omega)) _) | (refine Below.alloc ?_ (by first | omega | (simp; done) | (simp; omega) | (dsimp only; omega)) _))) (hb9.mono (by have := HB8.out.size; first | omega | (simp; omega))); clear hb9))
              all_goals
                have HB09 : Hid (Below wo.heap.size wo w9) := HBI.out.trans (HB9.out.mono HBI.out.size)
                have HOA : Hid ((w9.alloc (.cells #[.int .i64 av] 3)).ownsRow (w.heap.size + 1) 3 1 (.slice (some ⟨g, 0, none⟩) k c) k (ints (planS m k).1)) := own_belowW (own_belowW HO.out HB09.out) ((Below.refl _ _).alloc (Nat.le_refl _) _)
                obtain ⟨r0, r1, r2, r3⟩ := HS2.out w9 HB9.out
                have hz9 := HB09.out.size
                have hAc8 : A.length ≤ c8 := hc8
                go_wp2_with (at_builtin; refine wpList_append_lies _ rfl _ _ 23 rfl (w.heap.size + 1) 3 i0 (.int .i64 0) 1 8 Try.underlying23 ji jz0 jz1 jz2 rfl (by decide) (.slice (some ⟨g, 0, none⟩) k c) _ _ rfl HOA.out ⟨w9.heap.size, 0, none⟩ 1 1 [.int .i64 av] rfl rfl ?_ ?_ (by omega) ?_ ?_ ?_ (w9.heap.size + 1) ?_ ?_; (exact cell_one_new _ _ _); (simp [Value.oneCell']); (unfold maxLen; omega); omega; (simp; omega); (simp); intro g5 c5 w5 hown5 hgrow5 hat5 hlt5)
                have hA9 : Below w9.heap.size w9 (w9.alloc (.cells #[.int .i64 av] 3)) := (Below.refl _ _).alloc (Nat.le_refl _) _
                have hglo := own_block_lo HO.out (g := g) rfl
                have hgr5 : World.grownBy (w9.alloc (.cells #[.int .i64 av] 3)) w5 (some g) := hgrow5
                have HO5 : Hid (w5.ownsRow (w.heap.size + 1) 3 1 (.slice (some ⟨g5, 0, none⟩) (k + 1) c5) (k + 1) (ints (planS m (k + 1)).1)) := by rw [HNX.out.1, ints_snoc]; exact hown5
                have HX5 : Hid (Below (w.heap.size + 1) (w.alloc (.cells #[.int .i64 m.size, .slice ad m.gates.length cd, .slice ak m.pulls.length ck] 29)) w5) := Below.grown ((HX.out.trans (HB09.out.mono (by omega))).trans (hA9.mono (by omega))) hgr5 (by have := HX.out.size; simp at this; simp; omega) (fun b hb => by cases hb; exact hglo)
                clear hown5 hgrow5 hat5 hgr5 HOA r0 r1 r2 r3
                go_wp2
                go_roundg (cn + 1 - (k + 1))
                case measure => rw [HGK.out]; omega
                case rel => exact ⟨k + 1, g5, c5, rfl, by omega, rfl, by rw [HNX.out.2.1], by rw [HNX.out.2.2], HO5, HX5⟩
    · obtain rfl : k = cn := by omega
      have HRL : Hid (R.length = k) := by rw [← HR.out]; exact HPLL.out
      have HIF : Hid (IC wo (some ⟨g, 0, none⟩) R) := by rw [← HR.out]; exact ic_of' (Own.of HO.out) HPLL.out.symm
      go_wp2
      rw [← HRL.out]
      go_ret2
      exact ⟨_, _, rfl, HIF.out, HBW.out⟩
end Go.Proofs.Ytkhackdbnmcffaa
