/- Contract of l7Next. Printed by gen_next.py. -/
import Derived.Test.YtbaahghfjmkeoaaKdLeft2
import Derived.Deep.AppendLies
import Derived.Deep.DeepCutAuto
import Derived.BigQuiet
set_option linter.unusedVariables false
set_option linter.unusedSimpArgs false
namespace Go.KD
open Go.RowKit
theorem ic_grownL {w w' : World} {b off : Nat} {l : List Int} {row : Option Nat} (h : IC w (some ⟨b, off, none⟩) l) (hg : w.grownBy w' row) (hne : ∀ g, row = some g → g ≠ b) : IC w' (some ⟨b, off, none⟩) l := by
  intro k hk
  obtain ⟨b', off', hb, hbs, hc⟩ := h k hk
  cases hb
  refine ⟨b, off, rfl, Nat.lt_of_lt_of_le hbs hg.size, ?_⟩
  rw [← hc]
  exact World.cell?_of_block (hg.block b hbs (fun e => hne b e.symm rfl))
theorem nextK_yes {m : Mz} {O : Nat} {L : List Int} {k : Nat} (h1 : isLock m.doors k = true) (h2 : canK m O L k = true) : nextK m O L (k + 1) = nextK m O L k ++ [(k : Int)] := by simp [nextK, List.range_succ, List.filter_append, h1, h2]
theorem nextK_no {m : Mz} {O : Nat} {L : List Int} {k : Nat} (h : (isLock m.doors k && canK m O L k) = false) : nextK m O L (k + 1) = nextK m O L k := by simp [nextK, List.range_succ, List.filter_append, h]
theorem nextK_len (m : Mz) (O : Nat) (L : List Int) (k : Nat) : (nextK m O L k).length ≤ k := by
  unfold nextK
  rw [List.length_map]
  exact Nat.le_trans (List.length_filter_le _ _) (by simp)
/-- The first j colours of a lock can be paid. -/
def payC (LF : List Int) (z j : Nat) : Bool := (List.range j).all fun c => decide (bit01 z c ≤ LF[c]!)
theorem payC_step (LF : List Int) (z j : Nat) : payC LF z (j + 1) = (payC LF z j && decide (bit01 z j ≤ LF[j]!)) := by simp [payC, List.range_succ, List.all_append]
theorem payC_can {m : Mz} {O : Nat} {L : List Int} (h : OpOk m O L) (z : Nat) : payC (leftL m (nearN m O) L) z 6 = (List.range 6).all fun c => !(z.testBit c) || decide (1 ≤ leftC m (nearN m O) L c) := by
  unfold payC
  rw [Bool.eq_iff_iff, List.all_eq_true, List.all_eq_true]
  refine forall_congr' fun c => forall_congr' fun hc => ?_
  have hc6 := List.mem_range.1 hc
  have h0 := h.left c hc6
  rw [leftL_at _ _ _ _ hc6]
  unfold bit01
  cases z.testBit c <;> simp <;> omega
theorem canK_eq {m : Mz} {O : Nat} {L : List Int} (h : OpOk m O L) {k xn yn zn : Nat} (hX : m.doors[k]! = ((xn : Int), (yn : Int), (zn : Int))) : canK m O L k = (!O.testBit k && ((nearN m O).testBit xn || (nearN m O).testBit yn) && payC (leftL m (nearN m O) L) zn 6) := by
  rw [payC_can h]
  unfold canK
  rw [hX]
  rfl
/-- The state of the walk over the doors. -/
def NX (B : Nat) (ty : TypeId) (m : Mz) (O : Nat) (L : List Int) (N gr orr gl : Nat) (W0 : World) (go co k : Nat) (W : World) : Prop :=
  W.ownsRow B ty 1 (.slice (some ⟨go, 0, none⟩) (nextK m O L k).length co) (nextK m O L k).length (ints (nextK m O L k)) ∧ Below B W0 W ∧ IC W (some ⟨gr, orr, none⟩) (mem N) ∧ IC W (some ⟨gl, 0, none⟩) (leftL m N L) ∧ go ≠ gr ∧ go ≠ gl ∧ gr < W.heap.size ∧ gl < W.heap.size ∧ B ≤ W.heap.size
theorem NX.mk0 {B : Nat} {ty : TypeId} {m : Mz} {O : Nat} {L : List Int} {N gr orr gl : Nat} {W0 : World} {go : Nat} {W : World} (h1 : W.ownsRow B ty 1 (.slice (some ⟨go, 0, none⟩) 0 0) 0 (ints [])) (h2 : Below B W0 W) (h3 : IC W (some ⟨gr, orr, none⟩) (mem N)) (h4 : IC W (some ⟨gl, 0, none⟩) (leftL m N L)) (h5 : go ≠ gr) (h6 : go ≠ gl) (h7 : gr < W.heap.size) (h8 : gl < W.heap.size) (h9 : B ≤ W.heap.size) : NX B ty m O L N gr orr gl W0 go 0 0 W := ⟨h1, h2, h3, h4, h5, h6, h7, h8, h9⟩
theorem NX.later {B : Nat} {ty : TypeId} {m : Mz} {O : Nat} {L : List Int} {N gr orr gl : Nat} {W0 : World} {go co k : Nat} {W W' : World} (h : NX B ty m O L N gr orr gl W0 go co k W) (hb : Below W.heap.size W W') : NX B ty m O L N gr orr gl W0 go co k W' := by
  obtain ⟨h1, h2, h3, h4, h5, h6, h7, h8, h9⟩ := h
  have := hb.size
  exact ⟨((Own.of h1).later hb (Nat.le_refl _)).row, h2.trans (hb.mono h9), h3.later hb, h4.later hb, h5, h6, by omega, by omega, by omega⟩
theorem NX.skip {B : Nat} {ty : TypeId} {m : Mz} {O : Nat} {L : List Int} {N gr orr gl : Nat} {W0 : World} {go co k : Nat} {W : World} (h : NX B ty m O L N gr orr gl W0 go co k W) (hs : nextK m O L (k + 1) = nextK m O L k) : NX B ty m O L N gr orr gl W0 go co (k + 1) W := by
  unfold NX; rw [hs]; exact h
theorem op_has {m : Mz} {O : Nat} {L : List Int} (h : OpOk m O L) (k : Nat) (hk : k < 40) : hasI L (k : Int) = O.testBit k := by
  rw [Bool.eq_iff_iff, hasI_iff, h.mem, in_mem]
  constructor
  · rintro ⟨i, _, hi, he⟩
    have : k = i := by omega
    rw [this]; exact hi
  · intro hb; exact ⟨k, hk, hb, rfl⟩
theorem op_at {m : Mz} {O : Nat} {L : List Int} (h : OpOk m O L) (j : Nat) (hj : j < L.length) : ∃ i : Nat, L[j]! = (i : Int) ∧ i < m.doors.length := by
  have hm : L[j]! ∈ L := by rw [getElem!_pos L j hj]; exact List.getElem_mem hj
  rw [h.mem, in_mem] at hm
  obtain ⟨i, _, hb, he⟩ := hm
  exact ⟨i, he, h.lt i hb⟩
end Go.KD
namespace Go.Proofs.Ytbaahghfjmkeoaa
open Go.RowKit Go.KD
attribute [local go_sem] later_cell later_frozen
theorem own_none {base g : Nat} {e : TypeId} (W : World) (hg : g = W.heap.size) (hb : base ≤ W.heap.size) : (W.alloc (.cells #[] e)).ownsRow base e 1 (.slice (some ⟨g, 0, none⟩) 0 0) 0 (ints []) := by
  subst hg
  exact World.ownsRow_lit (base := base) (e := e) (size := 1) W #[] 0 hb (by unfold maxLen; omega) rfl
set_option maxRecDepth 100000 in
set_option maxHeartbeats 16000000 in
theorem l7Next_c (v : Value) (m : Mz) (O : Nat) (aL : Option Addr) (cL : Nat) (L : List Int) (w : World) (hm : MzAt w v m) (ok : MzOk m) (hL : IC w aL L) (hLl : L.length ≤ 40) (hop : OpOk m O L) : Calls Try.prog 56 #[v, .slice aL L.length cL] w fun e w' => ∃ u, e = .returned u ∧ w'.ownsRow w.heap.size 3 1 u (nextL m O L).length (ints (nextL m O L)) ∧ Below w.heap.size w w' := by
  have hM := hm
  obtain ⟨⟨ad, cd, ak, ck, rfl, hd, hk'⟩, nd, nk⟩ := hM
  obtain ⟨i0, ji, jz0, jz1, jz2⟩ := info_parts infoI
  have hng : m.doors.length ≤ 30 := ok.nd
  have HLO : Hid (∀ k : Nat, k < m.doors.length → hasI L (k : Int) = O.testBit k) := fun k hk => op_has hop k (by omega)
  have HLD : Hid (∀ j, j < L.length → ∃ i : Nat, L[j]! = (i : Int) ∧ i < m.doors.length) := op_at hop
  have HNIN := Lib.hid (nearN_in ok O)
  have hNl := (nearN_in ok O).lt ok
  have HCK : Hid (∀ k xn yn zn : Nat, m.doors[k]! = ((xn : Int), (yn : Int), (zn : Int)) → canK m O L k = (!O.testBit k && ((nearN m O).testBit xn || (nearN m O).testBit yn) && payC (leftL m (nearN m O) L) zn 6)) := fun k xn yn zn => canK_eq hop
  have HBD : Hid (∀ c : Nat, c < 6 → 0 ≤ (leftL m (nearN m O) L)[c]!) := fun c hc => by rw [leftL_at _ _ _ _ hc]; exact hop.left c hc
  have OK := Lib.hid ok; clear ok hop
  obtain ⟨N, hN⟩ : ∃ N, N = nearN m O := ⟨_, rfl⟩
  rw [← hN] at HNIN hNl HCK HBD
  have h40 := mem_len40z N
  have HN := Lib.hid hN
  clear hN
  go_enter Try.func56, Try.ntmps56
  go_upto_region 1 with fail
  go_cut [5, 6, 7] (fun s5 s6 s7 wx => ∃ go gr orr cr gl : Nat, s5 = .slice (some ⟨go, 0, none⟩) 0 0 ∧ s6 = .slice (some ⟨gr, orr, none⟩) (mem N).length cr ∧ s7 = .slice (some ⟨gl, 0, none⟩) 6 6 ∧ Hid (NX (w.heap.size + 1) 3 m O L N gr orr gl (w.alloc (.cells #[.int .i64 m.size, .slice ad m.doors.length cd, .slice ak m.keys.length ck] 29)) go 0 0 wx))
  case first =>
    have hb0 : Below (w.heap.size + 1) (w.alloc (.cells #[.int .i64 m.size, .slice ad m.doors.length cd, .slice ak m.keys.length ck] 29)) (w.alloc (.cells #[.int .i64 m.size, .slice ad m.doors.length cd, .slice ak m.keys.length ck] 29)).drew := (Below.refl _ _).drew
    obtain ⟨q0, q1, q2, z1⟩ := box3 hb0 (by omega)
    go_region_held3 (fun W => W.cell? ⟨w.heap.size, 0, none⟩ = some (.int .i64 m.size) ∧ W.cell? ⟨w.heap.size, 1, none⟩ = some (.slice ad m.doors.length cd) ∧ W.cell? ⟨w.heap.size, 2, none⟩ = some (.slice ak m.keys.length ck))
      (first | exact ⟨q0, q1, q2⟩ | exact ⟨r0, r1, r2⟩ | exact ⟨s0, s1, s2⟩ | exact keep3L _ z1 q0 q1 q2 | exact keep3L _ z2 r0 r1 r2 | exact keep3L _ z3 s0 s1 s2 | (dsimp only; exact keep3L _ z1 q0 q1 q2))
      (first
        | (go_at_call 96; refine (l7Near_c _ m O _ _ L _ (hm.later (by (repeat (first | exact Below.refl _ _ | apply Below.drew | apply below_drewN | (refine Below.setCell ?_ (by first | omega | (simp; done) | (simp; omega) | (dsimp only; omega)) _) | (refine Below.alloc ?_ (by first | omega | (simp; done) | (simp; omega) | (dsimp only; omega)) _))))) OK.out (hL.later (by (repeat (first | exact Below.refl _ _ | apply Below.drew | apply below_drewN | (refine Below.setCell ?_ (by first | omega | (simp; done) | (simp; omega) | (dsimp only; omega)) _) | (refine Below.alloc ?_ (by first | omega | (simp; done) | (simp; omega) | (dsimp only; omega)) _))))) (by omega) HLO.out).mono ?_; rintro e w2 ⟨u, rfl, hlm, hb2⟩; obtain ⟨gr, orr, cr, rfl, hni, -, -, hgr, hgz⟩ := hlm; have r0 : w2.cell? ⟨w.heap.size, 0, none⟩ = some (.int .i64 m.size) := (hb2.cell (p := ⟨w.heap.size, 0, none⟩) (by first | assumption | (simp; done) | (simp; omega))).trans (by simp [go_sem]); have r1 : w2.cell? ⟨w.heap.size, 1, none⟩ = some (.slice ad m.doors.length cd) := (hb2.cell (p := ⟨w.heap.size, 1, none⟩) (by first | assumption | (simp; done) | (simp; omega))).trans (by simp [go_sem]); have r2 : w2.cell? ⟨w.heap.size, 2, none⟩ = some (.slice ak m.keys.length ck) := (hb2.cell (p := ⟨w.heap.size, 2, none⟩) (by first | assumption | (simp; done) | (simp; omega))).trans (by simp [go_sem]); have z2 : w.heap.size < w2.heap.size := Nat.lt_of_lt_of_le (by first | (simp; done) | (simp; omega)) hb2.size; have HB2 : Hid (Below (w.heap.size + 1) (w.alloc (.cells #[.int .i64 m.size, .slice ad m.doors.length cd, .slice ak m.keys.length ck] 29)) w2) := Below.trans (by (repeat (first | exact Below.refl _ _ | apply Below.drew | apply below_drewN | (refine Below.setCell ?_ (by first | omega | (simp; done) | (simp; omega) | (dsimp only; omega)) _) | (refine Below.alloc ?_ (by first | omega | (simp; done) | (simp; omega) | (dsimp only; omega)) _)))) (hb2.mono (by simp)))
        | (go_at_call 98; refine (l7Left_c _ m O _ _ L _ (hm.later (Below.trans (below_box HB2.out (by omega)) (by (repeat (first | exact Below.refl _ _ | apply Below.drew | apply below_drewN | (refine Below.setCell ?_ (by first | omega | (simp; done) | (simp; omega) | (dsimp only; omega)) _) | (refine Below.alloc ?_ (by first | omega | (simp; done) | (simp; omega) | (dsimp only; omega)) _)))))) OK.out (hL.later (Below.trans (below_box HB2.out (by omega)) (by (repeat (first | exact Below.refl _ _ | apply Below.drew | apply below_drewN | (refine Below.setCell ?_ (by first | omega | (simp; done) | (simp; omega) | (dsimp only; omega)) _) | (refine Below.alloc ?_ (by first | omega | (simp; done) | (simp; omega) | (dsimp only; omega)) _)))))) hLl HLO.out HLD.out).mono ?_; rintro e w3 ⟨gl, rfl, hol, hb3⟩; have s0 : w3.cell? ⟨w.heap.size, 0, none⟩ = some (.int .i64 m.size) := (hb3.cell (p := ⟨w.heap.size, 0, none⟩) (by first | assumption | (simp; done) | (simp; omega))).trans (by first | exact r0 | (simp [go_sem, r0]; done) | (exact (keep3L _ z2 r0 r1 r2).1)); have s1 : w3.cell? ⟨w.heap.size, 1, none⟩ = some (.slice ad m.doors.length cd) := (hb3.cell (p := ⟨w.heap.size, 1, none⟩) (by first | assumption | (simp; done) | (simp; omega))).trans (by first | exact r1 | (simp [go_sem, r1]; done) | (exact (keep3L _ z2 r0 r1 r2).2.1)); have s2 : w3.cell? ⟨w.heap.size, 2, none⟩ = some (.slice ak m.keys.length ck) := (hb3.cell (p := ⟨w.heap.size, 2, none⟩) (by first | assumption | (simp; done) | (simp; omega))).trans (by first | exact r2 | (simp [go_sem, r2]; done) | (exact (keep3L _ z2 r0 r1 r2).2.2)); have z3 : w.heap.size < w3.heap.size := Nat.lt_of_lt_of_le (by first | assumption | (simp; omega)) hb3.size))
    all_goals
      simp only [World.size_alloc, World.size_drew] at hgr
      rw [← HN.out] at hni hol ⊢
      have hz2 := hb2.size
      have hz3 := hb3.size
      have hgl := own_block_lo hol (g := gl) rfl
      have hglz := (Own.of hol).top gl rfl
      simp only [World.size_alloc, World.size_drew] at hz2 hz3 hgl
      go_wp2_with fail
      go_meet
      case rel =>
        first
          | exact ⟨_, gr, orr, cr, gl, rfl, rfl, rfl, NX.mk0 (own_none _ rfl (by omega)) (Below.alloc (HB2.out.trans (hb3.mono (by omega))) (by omega) _) ((hni.later hb3).later ((Below.refl _ _).alloc (Nat.le_refl _) _)) ((ic_of' (Own.of hol) (by simp)).later ((Below.refl _ _).alloc (Nat.le_refl _) _)) (by omega) (by omega) (by simp; omega) (by simp; omega) (by simp; omega)⟩
          | exact ⟨_, gr, orr, cr, gl, rfl, rfl, rfl, NX.mk0 (own_below (own_none w2 rfl (by omega)) hb3) ((Below.alloc HB2.out (by omega) _).trans (hb3.mono (by simp; omega))) ((hni.later ((Below.refl _ _).alloc (Nat.le_refl _) _)).later hb3) (ic_of' (Own.of hol) (by simp)) (by omega) (by omega) (by omega) (by omega) (by omega)⟩
          | exact ⟨_, gr, orr, cr, gl, rfl, rfl, rfl, NX.mk0 (own_below (own_below (own_below (own_none (w.alloc (.cells #[.int .i64 m.size, .slice ad m.doors.length cd, .slice ak m.keys.length ck] 29)) (by simp) (by simp)) ((Below.refl _ _).drew)) hb2) hb3) (HB2.out.trans (hb3.mono (by omega))) (hni.later hb3) (ic_of' (Own.of hol) (by simp)) (by omega) (by omega) (by omega) (by omega) (by omega)⟩
  case rest =>
    obtain ⟨go, gr, orr, cr, gl, rfl, rfl, rfl, HQ⟩ := hcut
    go_wp2
    go_loopw [5, 8] (fun u n wr => ∃ go co k : Nat, n = .int .i64 k ∧ k ≤ m.doors.length ∧ u = .slice (some ⟨go, 0, none⟩) (nextK m O L k).length co ∧ Hid (NX (w.heap.size + 1) 3 m O L N gr orr gl (w.alloc (.cells #[.int .i64 m.size, .slice ad m.doors.length cd, .slice ak m.keys.length ck] 29)) go co k wr)) (fun _ n _ => m.doors.length - (intOf n).toNat)
    case atStart => exact ⟨go, 0, 0, rfl, Nat.zero_le _, rfl, HQ⟩
    case round =>
      clear HQ
      obtain ⟨wi, rfl⟩ : ∃ wi : World, wi = wr := ⟨_, rfl⟩
      obtain ⟨go, co, k, rfl, hk, rfl, HNX⟩ := hrel
      have HBi : Hid (Below (w.heap.size + 1) (w.alloc (.cells #[.int .i64 m.size, .slice ad m.doors.length cd, .slice ak m.keys.length ck] 29)) wi) := HNX.out.2.1
      obtain ⟨q0, q1, q2, z1⟩ := box3 HBi.out (by omega)
      have hzw : w.heap.size + 1 ≤ wi.heap.size := HNX.out.2.2.2.2.2.2.2.2
      have hnl := nextK_len m O L k
      have HBw := Lib.hid (below_box HBi.out (by omega))
      by_cases hlt : k < m.doors.length
      · have hkI : (k : Int) < (m.doors.length : Int) := by omega
        have hkI63 : (k : Int) < 64 := by omega
        obtain ⟨b, off, x0, y0, z0, hadx, HX, hbs, e0, e1, e2⟩ := (hd.later HBw.out).at k hlt
        subst hadx
        obtain ⟨f1, f2, f3, f4, f5⟩ := door_facts OK.out hlt HX.out
        obtain ⟨xn, rfl⟩ := Int.eq_ofNat_of_zero_le f1
        obtain ⟨yn, rfl⟩ := Int.eq_ofNat_of_zero_le (show 0 ≤ y0 by omega)
        obtain ⟨zn, rfl⟩ := Int.eq_ofNat_of_zero_le f4
        have hs2 : m.size ≤ 12 := OK.out.s2
        have HLK : Hid (isLock m.doors k = decide (zn ≠ 0)) := by show _ = _; unfold isLock; rw [HX.out]; simp
        have HCN := Lib.hid (HCK.out k xn yn zn HX.out)
        have HHK := Lib.hid (HLO.out k hlt)
        have HHX : Hid (hasI (mem N) (xn : Int) = N.testBit xn) := hasI_bitZ hNl
        have HHY : Hid (hasI (mem N) (yn : Int) = N.testBit yn) := hasI_bitZ hNl
        obtain ⟨pa, hpa⟩ : ∃ pa, pa = N.testBit xn := ⟨_, rfl⟩
        obtain ⟨pb, hpb⟩ : ∃ pb, pb = N.testBit yn := ⟨_, rfl⟩
        obtain ⟨ob, hob⟩ : ∃ ob, ob = O.testBit k := ⟨_, rfl⟩
        rw [← hpa, ← hpb, ← hob] at HCN
        rw [← hob] at HHK
        rw [← hpa] at HHX
        rw [← hpb] at HHY
        clear hpa hpb hob f1 f2 f3
        have HIN : Hid (∀ W, Below wi.heap.size wi W → IC W (some ⟨gr, orr, none⟩) (mem N)) := fun W hW => HNX.out.2.2.1.later hW
        have HLw := Lib.hid (hL.later HBw.out)
        by_cases hz0 : zn = 0
        case pos =>
          subst hz0
          have HSK : Hid (nextK m O L (k + 1) = nextK m O L k) := nextK_no (by rw [HLK.out]; simp)
          have HNS : Hid (∀ W, Below wi.heap.size wi W → NX (w.heap.size + 1) 3 m O L N gr orr gl (w.alloc (.cells #[.int .i64 m.size, .slice (some ⟨b, off, none⟩) m.doors.length cd, .slice ak m.keys.length ck] 29)) go co (k + 1) W) := fun W hW => (HNX.out.later hW).skip HSK.out
          go_wp2
          go_roundw
          case rel => exact ⟨go, co, k + 1, by go_num, by omega, by rw [HSK.out], HNS.out _ (by (repeat (first | exact Below.refl _ _ | apply Below.drew | apply below_drewN | (refine Below.setCell ?_ (by first | omega | (simp; done) | (simp; omega) | (dsimp only; omega)) _) | (refine Below.alloc ?_ (by first | omega | (simp; done) | (simp; omega) | (dsimp only; omega)) _))))⟩
          case measure => simp [intOf]; omega
        case neg =>
          have hzI : ((zn : Int) == 0) = false := by simp; omega
          have hzI2 : (zn : Int) ≠ 0 := by omega
          have HZL : Hid (isLock m.doors k = true) := by show _ = _; rw [HLK.out]; simp [hz0]
          have HZ := Lib.hid hz0
          clear hz0
          cases ob
          case true =>
            have HSK : Hid (nextK m O L (k + 1) = nextK m O L k) := nextK_no (by rw [HCN.out]; simp)
            have HNS : Hid (∀ W, Below wi.heap.size wi W → NX (w.heap.size + 1) 3 m O L N gr orr gl (w.alloc (.cells #[.int .i64 m.size, .slice (some ⟨b, off, none⟩) m.doors.length cd, .slice ak m.keys.length ck] 29)) go co (k + 1) W) := fun W hW => (HNX.out.later hW).skip HSK.out
            go_wp2_with fail
            refine (l1Has_c _ _ _ L _ _ rfl (HLw.out.later (by (repeat (first | exact Below.refl _ _ | apply Below.drew | apply below_drewN | (refine Below.setCell ?_ (by first | omega | (simp; done) | (simp; omega) | (dsimp only; omega)) _) | (refine Below.alloc ?_ (by first | omega | (simp; done) | (simp; omega) | (dsimp only; omega)) _))))) (by omega)).mono ?_
            rintro e w4 ⟨rfl, rfl⟩
            rw [HHK.out]
            go_wp2_with fail
            go_roundw
            case rel => exact ⟨go, co, k + 1, by go_num, by omega, by rw [HSK.out], HNS.out _ (by (repeat (first | exact Below.refl _ _ | apply Below.drew | apply below_drewN | (refine Below.setCell ?_ (by first | omega | (simp; done) | (simp; omega) | (dsimp only; omega)) _) | (refine Below.alloc ?_ (by first | omega | (simp; done) | (simp; omega) | (dsimp only; omega)) _))))⟩
            case measure => simp [intOf]; omega
          case false =>
            cases pa
            case false =>
              cases pb
              case false =>
                have HSK : Hid (nextK m O L (k + 1) = nextK m O L k) := nextK_no (by rw [HCN.out]; simp)
                have HNS : Hid (∀ W, Below wi.heap.size wi W → NX (w.heap.size + 1) 3 m O L N gr orr gl (w.alloc (.cells #[.int .i64 m.size, .slice (some ⟨b, off, none⟩) m.doors.length cd, .slice ak m.keys.length ck] 29)) go co (k + 1) W) := fun W hW => (HNX.out.later hW).skip HSK.out
                go_wp2_with fail
                refine (l1Has_c _ _ _ L _ _ rfl (HLw.out.later (by (repeat (first | exact Below.refl _ _ | apply Below.drew | apply below_drewN | (refine Below.setCell ?_ (by first | omega | (simp; done) | (simp; omega) | (dsimp only; omega)) _) | (refine Below.alloc ?_ (by first | omega | (simp; done) | (simp; omega) | (dsimp only; omega)) _))))) (by omega)).mono ?_
                rintro e w4 ⟨rfl, rfl⟩
                rw [HHK.out]
                go_wp2_with fail
                refine (l1Has_c _ _ _ (mem N) _ _ rfl (HIN.out _ (by (repeat (first | exact Below.refl _ _ | apply Below.drew | apply below_drewN | (refine Below.setCell ?_ (by first | omega | (simp; done) | (simp; omega) | (dsimp only; omega)) _) | (refine Below.alloc ?_ (by first | omega | (simp; done) | (simp; omega) | (dsimp only; omega)) _))))) (by omega)).mono ?_
                rintro e w4 ⟨rfl, rfl⟩
                rw [HHX.out]
                go_wp2_with fail
                refine (l1Has_c _ _ _ (mem N) _ _ rfl (HIN.out _ (by (repeat (first | exact Below.refl _ _ | apply Below.drew | apply below_drewN | (refine Below.setCell ?_ (by first | omega | (simp; done) | (simp; omega) | (dsimp only; omega)) _) | (refine Below.alloc ?_ (by first | omega | (simp; done) | (simp; omega) | (dsimp only; omega)) _))))) (by omega)).mono ?_
                rintro e w4 ⟨rfl, rfl⟩
                rw [HHY.out]
                go_wp2_with fail
                go_roundw
                case rel => exact ⟨go, co, k + 1, by go_num, by omega, by rw [HSK.out], HNS.out _ (by (repeat (first | exact Below.refl _ _ | apply Below.drew | apply below_drewN | (refine Below.setCell ?_ (by first | omega | (simp; done) | (simp; omega) | (dsimp only; omega)) _) | (refine Below.alloc ?_ (by first | omega | (simp; done) | (simp; omega) | (dsimp only; omega)) _))))⟩
                case measure => simp [intOf]; omega
              case true =>
                have HCP : Hid (canK m O L k = payC (leftL m N L) zn 6) := by show _ = _; rw [HCN.out]; simp
                go_wp2_with fail
                refine (l1Has_c _ _ _ L _ _ rfl (HLw.out.later (by (repeat (first | exact Below.refl _ _ | apply Below.drew | apply below_drewN | (refine Below.setCell ?_ (by first | omega | (simp; done) | (simp; omega) | (dsimp only; omega)) _) | (refine Below.alloc ?_ (by first | omega | (simp; done) | (simp; omega) | (dsimp only; omega)) _))))) (by omega)).mono ?_
                rintro e w4 ⟨rfl, rfl⟩
                rw [HHK.out]
                go_wp2_with fail
                refine (l1Has_c _ _ _ (mem N) _ _ rfl (HIN.out _ (by (repeat (first | exact Below.refl _ _ | apply Below.drew | apply below_drewN | (refine Below.setCell ?_ (by first | omega | (simp; done) | (simp; omega) | (dsimp only; omega)) _) | (refine Below.alloc ?_ (by first | omega | (simp; done) | (simp; omega) | (dsimp only; omega)) _))))) (by omega)).mono ?_
                rintro e w4 ⟨rfl, rfl⟩
                rw [HHX.out]
                go_wp2_with fail
                refine (l1Has_c _ _ _ (mem N) _ _ rfl (HIN.out _ (by (repeat (first | exact Below.refl _ _ | apply Below.drew | apply below_drewN | (refine Below.setCell ?_ (by first | omega | (simp; done) | (simp; omega) | (dsimp only; omega)) _) | (refine Below.alloc ?_ (by first | omega | (simp; done) | (simp; omega) | (dsimp only; omega)) _))))) (by omega)).mono ?_
                rintro e w4 ⟨rfl, rfl⟩
                rw [HHY.out]
                go_wp2_with fail
                go_loopw [10, 11] (fun p c wr => ∃ j : Nat, j ≤ 6 ∧ c = .int .i64 j ∧ p = .bool (payC (leftL m N L) zn j) ∧ Below (wi.heap.size + 1) (wi.alloc (.cells #[.int .i64 xn, .int .i64 yn, .int .i64 zn] 55)) wr) (fun _ c _ => 6 - (intOf c).toNat)
                case atStart => exact ⟨0, by omega, rfl, by simp [payC], Below.refl _ _⟩
                case round =>
                  obtain ⟨wz, rfl⟩ : ∃ wz : World, wz = wr := ⟨_, rfl⟩
                  obtain ⟨j, hj, rfl, rfl, hbz⟩ := hrel
                  have HBZ : Hid (Below wi.heap.size wi wz) := below_box hbz (by omega)
                  have HNZ := Lib.hid (HNX.out.later HBZ.out)
                  obtain ⟨t0, t1, t2, z4⟩ := box3 hbz (by omega)
                  have HBz := Lib.hid hbz
                  clear q0 q1 q2
                  obtain ⟨q0, q1, q2, z5⟩ := box3 HNZ.out.2.1 (by omega)
                  clear hbz
                  by_cases hj6 : j < 6
                  · have hjI : (j : Int) < 6 := by omega
                    have hj0 : (0 : Int) ≤ (j : Int) := by omega
                    have hj63 : (j : Int) ≤ 63 := by omega
                    obtain ⟨b3, off3, lv, hax, HLV, hbs3, e5⟩ := HNZ.out.2.2.2.1.at j (by simpa using hj6)
                    cases hax
                    rw [Nat.zero_add] at e5
                    have hl0 := HBD.out j hj6
                    rw [HLV.out] at hl0
                    have HPS := Lib.hid (payC_step (leftL m N L) zn j)
                    rw [HLV.out] at HPS
                    obtain ⟨yv, HYV, ey⟩ := shr_at zn j
                    have hyv : yv < 1099511627776 := by
                      have := HYV.out; rw [Nat.shiftRight_eq_div_pow] at this; have := Nat.div_le_self zn (2 ^ j); omega
                    have ea := and1 hyv
                    have HBY := Lib.hid (bit01_y HYV.out)
                    rw [← HBY.out] at HPS
                    clear hyv
                    obtain ⟨pj, hpj⟩ : ∃ pj, pj = payC (leftL m N L) zn j := ⟨_, rfl⟩
                    rw [← hpj] at HPS ⊢
                    clear hpj
                    cases pj
                    case false =>
                      go_wp2
                      go_quiet (fail)
                      go_wp2
                      go_roundw
                      case rel => exact ⟨j + 1, by omega, by go_num, by rw [HPS.out]; rfl, below_drewN HBz.out _⟩
                      case measure => simp [intOf]; omega
                    case true =>
                      cases hq : decide (((yv % 2 : Nat) : Int) ≤ lv)
                      case false =>
                        have HQF := Lib.hid hq
                        have hq2 : ¬ (((yv % 2 : Nat) : Int) ≤ lv) := of_decide_eq_false hq
                        clear hq
                        go_wp2
                        go_quiet (fail)
                        go_wp2
                        go_roundw
                        case rel => exact ⟨j + 1, by omega, by go_num, by rw [HPS.out, Bool.true_and]; rfl, below_drewN HBz.out _⟩
                        case measure => simp [intOf]; omega
                      case true =>
                        have HQT := Lib.hid hq
                        have hq2 : ((yv % 2 : Nat) : Int) ≤ lv := of_decide_eq_true hq
                        clear hq
                        go_wp2
                        go_quiet (fail)
                        go_wp2
                        go_roundw
                        case rel => exact ⟨j + 1, by omega, by go_num, by rw [HPS.out, Bool.true_and]; rfl, below_drewN HBz.out _⟩
                        case measure => simp [intOf]; omega
                  · obtain rfl : j = 6 := by omega
                    obtain ⟨pj, hpj⟩ : ∃ pj, pj = payC (leftL m N L) zn 6 := ⟨_, rfl⟩
                    rw [← hpj] at HCP ⊢
                    clear hpj
                    cases pj
                    case false =>
                      have HSK : Hid (nextK m O L (k + 1) = nextK m O L k) := nextK_no (by rw [HCP.out]; simp)
                      go_wp2
                      go_roundw
                      case rel => exact ⟨go, co, k + 1, by go_num, by omega, by rw [HSK.out], HNZ.out.skip HSK.out⟩
                      case measure => simp [intOf]; omega
                    case true =>
                      have HYS : Hid (nextK m O L (k + 1) = nextK m O L k ++ [(k : Int)]) := nextK_yes HZL.out HCP.out
                      obtain ⟨hoz, hbz, hiz, hlz, hne1, hne2, hgrz, hglz, hBz⟩ := HNZ.out
                      have HOZ := Lib.hid hoz
                      have HBZ2 := Lib.hid hbz
                      have HIZ := Lib.hid hiz
                      have HLZ := Lib.hid hlz
                      clear hoz hbz hiz hlz
                      go_wp2_with (at_builtin; refine wpList_append_lies _ rfl _ _ 23 rfl (w.heap.size + 1) 3 i0 (.int .i64 0) 1 8 Try.underlying23 ji jz0 jz1 jz2 rfl (by decide) (.slice (some ⟨go, 0, none⟩) (nextK m O L k).length co) _ _ rfl (HOZ.out.alloc _) ⟨wz.heap.size, 0, none⟩ 1 1 [.int .i64 k] rfl rfl ?_ ?_ (by omega) ?_ ?_ ?_ (wz.heap.size + 1) ?_ ?_; (exact cell_one_new _ _ _); (simp [Value.oneCell']); (unfold maxLen; omega); omega; (simp; omega); (simp); intro g5 c5 w5 hown5 hgrow5 hat5 hlt5)
                      have hsz5 := hgrow5.size
                      simp only [World.size_alloc] at hsz5
                      have hg5 : g5 ≠ gr ∧ g5 ≠ gl := by
                        rcases hat5 with h | h
                        · have : go = g5 := by simpa [Value.ownBlock] using h
                          rw [← this]; exact ⟨hne1, hne2⟩
                        · omega
                      have HN5 : Hid (NX (w.heap.size + 1) 3 m O L N gr orr gl (w.alloc (.cells #[.int .i64 m.size, .slice (some ⟨b, off, none⟩) m.doors.length cd, .slice ak m.keys.length ck] 29)) g5 c5 (k + 1) w5) := by
                        have hrow : ∀ g, Value.ownBlock (.slice (some ⟨go, 0, none⟩) (nextK m O L k).length co) = some g → go = g := fun g h => by simpa [Value.ownBlock] using h
                        refine ⟨?_, (HBZ2.out.alloc hBz _).grown hgrow5 (by simp; omega) (fun g hg => own_block_lo HOZ.out hg), ic_grownL (HIZ.out.later ((Below.refl _ _).alloc (Nat.le_refl _) _)) hgrow5 (fun g h => by rw [← hrow g h]; exact hne1), ic_grownL (HLZ.out.later ((Below.refl _ _).alloc (Nat.le_refl _) _)) hgrow5 (fun g h => by rw [← hrow g h]; exact hne2), hg5.1, hg5.2, by omega, by omega, by omega⟩
                        rw [HYS.out, ints_snoc, List.length_append]
                        exact hown5
                      clear hown5 hgrow5 hat5
                      go_wp2
                      go_roundw
                      case rel => exact ⟨g5, c5, k + 1, by go_num, by omega, by rw [HYS.out]; simp, HN5.out⟩
                      case measure => simp [intOf]; omega
            case true =>
              have HCP : Hid (canK m O L k = payC (leftL m N L) zn 6) := by show _ = _; rw [HCN.out]; simp
              go_wp2_with fail
              refine (l1Has_c _ _ _ L _ _ rfl (HLw.out.later (by (repeat (first | exact Below.refl _ _ | apply Below.drew | apply below_drewN | (refine Below.setCell ?_ (by first | omega | (simp; done) | (simp; omega) | (dsimp only; omega)) _) | (refine Below.alloc ?_ (by first | omega | (simp; done) | (simp; omega) | (dsimp only; omega)) _))))) (by omega)).mono ?_
              rintro e w4 ⟨rfl, rfl⟩
              rw [HHK.out]
              go_wp2_with fail
              refine (l1Has_c _ _ _ (mem N) _ _ rfl (HIN.out _ (by (repeat (first | exact Below.refl _ _ | apply Below.drew | apply below_drewN | (refine Below.setCell ?_ (by first | omega | (simp; done) | (simp; omega) | (dsimp only; omega)) _) | (refine Below.alloc ?_ (by first | omega | (simp; done) | (simp; omega) | (dsimp only; omega)) _))))) (by omega)).mono ?_
              rintro e w4 ⟨rfl, rfl⟩
              rw [HHX.out]
              go_wp2_with fail
              go_loopw [10, 11] (fun p c wr => ∃ j : Nat, j ≤ 6 ∧ c = .int .i64 j ∧ p = .bool (payC (leftL m N L) zn j) ∧ Below (wi.heap.size + 1) (wi.alloc (.cells #[.int .i64 xn, .int .i64 yn, .int .i64 zn] 55)) wr) (fun _ c _ => 6 - (intOf c).toNat)
              case atStart => exact ⟨0, by omega, rfl, by simp [payC], Below.refl _ _⟩
              case round =>
                obtain ⟨wz, rfl⟩ : ∃ wz : World, wz = wr := ⟨_, rfl⟩
                obtain ⟨j, hj, rfl, rfl, hbz⟩ := hrel
                have HBZ : Hid (Below wi.heap.size wi wz) := below_box hbz (by omega)
                have HNZ := Lib.hid (HNX.out.later HBZ.out)
                obtain ⟨t0, t1, t2, z4⟩ := box3 hbz (by omega)
                have HBz := Lib.hid hbz
                clear q0 q1 q2
                obtain ⟨q0, q1, q2, z5⟩ := box3 HNZ.out.2.1 (by omega)
                clear hbz
                by_cases hj6 : j < 6
                · have hjI : (j : Int) < 6 := by omega
                  have hj0 : (0 : Int) ≤ (j : Int) := by omega
                  have hj63 : (j : Int) ≤ 63 := by omega
                  obtain ⟨b3, off3, lv, hax, HLV, hbs3, e5⟩ := HNZ.out.2.2.2.1.at j (by simpa using hj6)
                  cases hax
                  rw [Nat.zero_add] at e5
                  have hl0 := HBD.out j hj6
                  rw [HLV.out] at hl0
                  have HPS := Lib.hid (payC_step (leftL m N L) zn j)
                  rw [HLV.out] at HPS
                  obtain ⟨yv, HYV, ey⟩ := shr_at zn j
                  have hyv : yv < 1099511627776 := by
                    have := HYV.out; rw [Nat.shiftRight_eq_div_pow] at this; have := Nat.div_le_self zn (2 ^ j); omega
                  have ea := and1 hyv
                  have HBY := Lib.hid (bit01_y HYV.out)
                  rw [← HBY.out] at HPS
                  clear hyv
                  obtain ⟨pj, hpj⟩ : ∃ pj, pj = payC (leftL m N L) zn j := ⟨_, rfl⟩
                  rw [← hpj] at HPS ⊢
                  clear hpj
                  cases pj
                  case false =>
                    go_wp2
                    go_quiet (fail)
                    go_wp2
                    go_roundw
                    case rel => exact ⟨j + 1, by omega, by go_num, by rw [HPS.out]; rfl, below_drewN HBz.out _⟩
                    case measure => simp [intOf]; omega
                  case true =>
                    cases hq : decide (((yv % 2 : Nat) : Int) ≤ lv)
                    case false =>
                      have HQF := Lib.hid hq
                      have hq2 : ¬ (((yv % 2 : Nat) : Int) ≤ lv) := of_decide_eq_false hq
                      clear hq
                      go_wp2
                      go_quiet (fail)
                      go_wp2
                      go_roundw
                      case rel => exact ⟨j + 1, by omega, by go_num, by rw [HPS.out, Bool.true_and]; rfl, below_drewN HBz.out _⟩
                      case measure => simp [intOf]; omega
                    case true =>
                      have HQT := Lib.hid hq
                      have hq2 : ((yv % 2 : Nat) : Int) ≤ lv := of_decide_eq_true hq
                      clear hq
                      go_wp2
                      go_quiet (fail)
                      go_wp2
                      go_roundw
                      case rel => exact ⟨j + 1, by omega, by go_num, by rw [HPS.out, Bool.true_and]; rfl, below_drewN HBz.out _⟩
                      case measure => simp [intOf]; omega
                · obtain rfl : j = 6 := by omega
                  obtain ⟨pj, hpj⟩ : ∃ pj, pj = payC (leftL m N L) zn 6 := ⟨_, rfl⟩
                  rw [← hpj] at HCP ⊢
                  clear hpj
                  cases pj
                  case false =>
                    have HSK : Hid (nextK m O L (k + 1) = nextK m O L k) := nextK_no (by rw [HCP.out]; simp)
                    go_wp2
                    go_roundw
                    case rel => exact ⟨go, co, k + 1, by go_num, by omega, by rw [HSK.out], HNZ.out.skip HSK.out⟩
                    case measure => simp [intOf]; omega
                  case true =>
                    have HYS : Hid (nextK m O L (k + 1) = nextK m O L k ++ [(k : Int)]) := nextK_yes HZL.out HCP.out
                    obtain ⟨hoz, hbz, hiz, hlz, hne1, hne2, hgrz, hglz, hBz⟩ := HNZ.out
                    have HOZ := Lib.hid hoz
                    have HBZ2 := Lib.hid hbz
                    have HIZ := Lib.hid hiz
                    have HLZ := Lib.hid hlz
                    clear hoz hbz hiz hlz
                    go_wp2_with (at_builtin; refine wpList_append_lies _ rfl _ _ 23 rfl (w.heap.size + 1) 3 i0 (.int .i64 0) 1 8 Try.underlying23 ji jz0 jz1 jz2 rfl (by decide) (.slice (some ⟨go, 0, none⟩) (nextK m O L k).length co) _ _ rfl (HOZ.out.alloc _) ⟨wz.heap.size, 0, none⟩ 1 1 [.int .i64 k] rfl rfl ?_ ?_ (by omega) ?_ ?_ ?_ (wz.heap.size + 1) ?_ ?_; (exact cell_one_new _ _ _); (simp [Value.oneCell']); (unfold maxLen; omega); omega; (simp; omega); (simp); intro g5 c5 w5 hown5 hgrow5 hat5 hlt5)
                    have hsz5 := hgrow5.size
                    simp only [World.size_alloc] at hsz5
                    have hg5 : g5 ≠ gr ∧ g5 ≠ gl := by
                      rcases hat5 with h | h
                      · have : go = g5 := by simpa [Value.ownBlock] using h
                        rw [← this]; exact ⟨hne1, hne2⟩
                      · omega
                    have HN5 : Hid (NX (w.heap.size + 1) 3 m O L N gr orr gl (w.alloc (.cells #[.int .i64 m.size, .slice (some ⟨b, off, none⟩) m.doors.length cd, .slice ak m.keys.length ck] 29)) g5 c5 (k + 1) w5) := by
                      have hrow : ∀ g, Value.ownBlock (.slice (some ⟨go, 0, none⟩) (nextK m O L k).length co) = some g → go = g := fun g h => by simpa [Value.ownBlock] using h
                      refine ⟨?_, (HBZ2.out.alloc hBz _).grown hgrow5 (by simp; omega) (fun g hg => own_block_lo HOZ.out hg), ic_grownL (HIZ.out.later ((Below.refl _ _).alloc (Nat.le_refl _) _)) hgrow5 (fun g h => by rw [← hrow g h]; exact hne1), ic_grownL (HLZ.out.later ((Below.refl _ _).alloc (Nat.le_refl _) _)) hgrow5 (fun g h => by rw [← hrow g h]; exact hne2), hg5.1, hg5.2, by omega, by omega, by omega⟩
                      rw [HYS.out, ints_snoc, List.length_append]
                      exact hown5
                    clear hown5 hgrow5 hat5
                    go_wp2
                    go_roundw
                    case rel => exact ⟨g5, c5, k + 1, by go_num, by omega, by rw [HYS.out]; simp, HN5.out⟩
                    case measure => simp [intOf]; omega
      · obtain rfl : k = m.doors.length := by omega
        have HRF : Hid (wi.ownsRow (w.heap.size + 1) 3 1 (.slice (some ⟨go, 0, none⟩) (nextK m O L m.doors.length).length co) (nextL m O L).length (ints (nextL m O L))) := HNX.out.1
        go_wp2
        go_ret
        exact ⟨_, rfl, (Own.mono (Own.of HRF.out) (by omega) (Nat.le_refl _)).row, HBw.out⟩
end Go.Proofs.Ytbaahghfjmkeoaa
