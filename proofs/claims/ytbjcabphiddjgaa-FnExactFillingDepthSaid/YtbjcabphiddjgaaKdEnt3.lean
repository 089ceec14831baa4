/- Contract of the reference's l3Entered. -/
import Derived.Test.YtbjcabphiddjgaaKdEnt2
import Derived.Deep.OwnRows
set_option linter.unusedVariables false
set_option linter.unusedSimpArgs false
namespace Go.KD
open Go.RowKit
theorem ic_chg {lo hi : Nat} {w w' : World} {b off : Nat} {l : List Int} (h : IC w (some ⟨b, off, none⟩) l) (hc : Chg lo hi w w') (hb : b < lo ∨ hi ≤ b) : IC w' (some ⟨b, off, none⟩) l := by
  intro k hk
  obtain ⟨b', off', hb', hbs, hcl⟩ := h k hk
  cases hb'
  exact ⟨b, off, rfl, Nat.lt_of_lt_of_le hbs hc.size, (hc.cell (p := ⟨b, off + k, none⟩) hbs hb).trans hcl⟩
theorem keep3 {w : World} {B : Nat} {a b c : Value} (o : Obj) (hB : B < w.heap.size) (h0 : w.cell? ⟨B, 0, none⟩ = some a) (h1 : w.cell? ⟨B, 1, none⟩ = some b) (h2 : w.cell? ⟨B, 2, none⟩ = some c) :
    (w.alloc o).cell? ⟨B, 0, none⟩ = some a ∧ (w.alloc o).cell? ⟨B, 1, none⟩ = some b ∧ (w.alloc o).cell? ⟨B, 2, none⟩ = some c := by
  have hb := (Below.refl w.heap.size w).alloc (Nat.le_refl _) o
  exact ⟨(hb.cell (p := ⟨B, 0, none⟩) hB).trans h0, (hb.cell (p := ⟨B, 1, none⟩) hB).trans h1, (hb.cell (p := ⟨B, 2, none⟩) hB).trans h2⟩
/-- A row in which rounds are written, and a row of sets that is read. -/
def RL (B : Nat) (ty : TypeId) (m : Mz) (s sn : Nat) (W0 : World) (go gr cr k j : Nat) (wr : World) : Prop :=
  j ≤ k + 1 ∧ k < 64 ∧ entF m s = entK m s (k + 1) ∧ IC wr (some ⟨gr, 0, none⟩) (setsL m s (k + 1)) ∧ wr.ownsRow B ty 1 (.slice (some ⟨go, 0, none⟩) sn sn) sn (ints (entK m s j)) ∧ gr ≠ go ∧ B ≤ go ∧ Below B W0 wr
end Go.KD
namespace Go.Proofs.Ytbjcabphiddjgaa
open Go.RowKit Go.KD
attribute [local go_sem] later_cell later_frozen
theorem own_made {base n g : Nat} {e : TypeId} (W : World) (hg : g = W.heap.size) (hb : base ≤ W.heap.size) (hn : n ≤ maxLen) : (W.alloc (.cells (madeCells #[.int .i64 0] n) e)).ownsRow base e 1 (.slice (some ⟨g, 0, none⟩) n n) n (ints (List.replicate n 0)) := by
  subst hg
  have h := World.ownsRow_lit (base := base) (e := e) (size := 1) W (madeCells #[.int .i64 0] n) n hb hn (by simp [madeCells])
  have hm := madeI n
  rw [Nat.mul_one] at hm
  rw [show (Value.int .i64 0).cells = #[Value.int .i64 0] from rfl] at hm
  rwa [hm] at h
set_option maxRecDepth 100000 in
set_option maxHeartbeats 16000000 in
theorem l3Entered_c (v : Value) (m : Mz) (s : Nat) (w : World) (hm : MzAt w v m) (ok : MzOk m) (hs : s < 64) : Calls Try.prog 118 #[v, .int .i64 s] w fun e w' =>
    ∃ u, e = .returned u ∧ w'.ownsRow w.heap.size 3 1 u m.keys.length (ints (entF m s)) ∧ Below w.heap.size w w' := by
  have hM := hm
  obtain ⟨⟨ad, cd, ak, ck, rfl, hd, hk'⟩, nd, nk⟩ := hM
  obtain ⟨i0, ji, jz0, jz1, jz2⟩ := info_parts infoI
  have hnk : (m.keys.length : Int) = m.size := ok.nk
  have hkl12 : m.keys.length ≤ 12 := by have := ok.s2; omega
  obtain ⟨sn, hsn⟩ : ∃ sn, sn = m.keys.length := ⟨_, rfl⟩
  have HSZ : Hid (m.size = (sn : Int)) := by show _ = _; omega
  have HRI : Hid (∀ t, InM m (reachN m 0 t)) := fun t => reachN_in ok t (by have := ok.s1; show ((0 : Nat) : Int) < _; omega)
  have HEF : Hid (∀ k, k < 64 → gainN m (gK m s k) = gK m s k → (∀ j, j < k → gainN m (gK m s j) ≠ gK m s j) → entF m s = entK m s (k + 1)) := fun k h1 h2 h3 => entF_eq h1 h2 h3
  have HEL : Hid (∀ i, (entK m s i).length = sn) := fun i => by rw [hsn]; exact entK_len m s i
  have HE0 : Hid (entK m s 0 = List.replicate sn 0) := by show _ = _; rw [hsn]; rfl
  have HGL := Lib.hid (gK_lt ok hs)
  have hs1 : 1 ≤ m.size := ok.s1
  have OK := Lib.hid ok; clear ok
  have HSN := Lib.hid hsn
  have hsn12 : sn ≤ 12 := by omega
  clear hnk hsn
  have hmk := fun W => run_make_row' 23 3 (.int .i64 0) 8 Try.underlying23 infoI rfl .i64 .i64 sn (by omega) (by omega) W
  obtain ⟨sz, gs, ps⟩ := m
  have hsz := HSZ.out
  dsimp only at hsz hs1
  subst hsz
  have HS1 : Hid (((0 : Nat) : Int) < (⟨(sn : Int), gs, ps⟩ : Mz).size) := by show ((0 : Nat) : Int) < (sn : Int); omega
  go_enter Try.func118, Try.ntmps118
  go_wp2
  have hb0 : Below (w.heap.size + 1) (w.alloc (.cells #[.int .i64 sn, .slice ad gs.length cd, .slice ak ps.length ck] 29)) (w.alloc (.cells #[.int .i64 sn, .slice ad gs.length cd, .slice ak ps.length ck] 29)).drew := (Below.refl _ _).drew
  obtain ⟨q0, q1, q2, z1⟩ := box3 hb0 (by omega)
  go_region_held3 (fun W => W.cell? ⟨w.heap.size, 0, none⟩ = some (.int .i64 sn) ∧ W.cell? ⟨w.heap.size, 1, none⟩ = some (.slice ad gs.length cd) ∧ W.cell? ⟨w.heap.size, 2, none⟩ = some (.slice ak ps.length ck))
    (first | exact ⟨q0, q1, q2⟩ | exact ⟨r0, r1, r2⟩ | exact keep3 _ z1 q0 q1 q2 | exact keep3 _ z2 r0 r1 r2 | (dsimp only; exact keep3 _ z1 q0 q1 q2))
    ((go_at_call 133; refine (l3Rounds_c _ ⟨(sn : Int), gs, ps⟩ s _ (hm.later (by (repeat (first | exact Below.refl _ _ | apply Below.drew | apply below_drewN | (refine Below.setCell ?_ (by first | omega | (simp; done) | (simp; omega) | (dsimp only; omega)) _) | (refine Below.alloc ?_ (by first | omega | (simp; done) | (simp; omega) | (dsimp only; omega)) _))))) OK.out hs).mono ?_; rintro e w2 ⟨u, rfl, k, ho, hk, hfx, hno, hb2⟩; obtain ⟨gr, cr, rfl, -, -⟩ := ho.form (by omega); have r0 : w2.cell? ⟨w.heap.size, 0, none⟩ = some (.int .i64 sn) := (hb2.cell (p := ⟨w.heap.size, 0, none⟩) (by first | (simp; done) | (simp; omega))).trans (by simp [go_sem]); have r1 : w2.cell? ⟨w.heap.size, 1, none⟩ = some (.slice ad gs.length cd) := (hb2.cell (p := ⟨w.heap.size, 1, none⟩) (by first | (simp; done) | (simp; omega))).trans (by simp [go_sem]); have r2 : w2.cell? ⟨w.heap.size, 2, none⟩ = some (.slice ak ps.length ck) := (hb2.cell (p := ⟨w.heap.size, 2, none⟩) (by first | (simp; done) | (simp; omega))).trans (by simp [go_sem]); have z2 : w.heap.size < w2.heap.size := Nat.lt_of_lt_of_le (by first | (simp; done) | (simp; omega)) hb2.size))
  all_goals
    have HEE := Lib.hid (HEF.out k (by have := HGL.out k; omega) hfx hno)
    have hk64 : k < 64 := by have := HGL.out k; omega
    have hgr := own_block_lo ho (g := gr) rfl
    simp only [World.size_alloc, World.size_drew] at hgr
    have HI : Hid (IC w2 (some ⟨gr, 0, none⟩) (setsL ⟨(sn : Int), gs, ps⟩ s (k + 1))) := ic_of' (Own.of ho) (by simp)
    obtain ⟨b', o', he', hgz, -⟩ := HI.out 0 (by simp)
    cases he'
    have hz2 : w.heap.size + 1 ≤ w2.heap.size := z2
    first
      | (obtain ⟨go, wq, HRL, hgo, hwq⟩ : ∃ go wq, Hid (RL (w.heap.size + 1) 3 ⟨(sn : Int), gs, ps⟩ s sn (w.alloc (.cells #[.int .i64 sn, .slice ad gs.length cd, .slice ak ps.length ck] 29)) go gr cr k 0 wq) ∧ go = w2.heap.size ∧ wq = w2.alloc (.cells (madeCells #[.int .i64 0] sn) 3) := ⟨_, _, ⟨Nat.zero_le _, hk64, HEE.out, HI.out.later ((Below.refl _ _).alloc (Nat.le_refl _) _), by rw [HE0.out]; exact own_made _ rfl hz2 (by unfold maxLen; omega), by omega, hz2, Below.alloc (Below.trans (by (repeat (first | exact Below.refl _ _ | apply Below.drew | apply below_drewN | (refine Below.setCell ?_ (by first | omega | (simp; done) | (simp; omega) | (dsimp only; omega)) _) | (refine Below.alloc ?_ (by first | omega | (simp; done) | (simp; omega) | (dsimp only; omega)) _)))) (hb2.mono (by simp))) hz2 _⟩, rfl, rfl⟩
         rw [← hgo, ← hwq])
      | (obtain ⟨go, wq, HRL, hgo, hwq⟩ : ∃ go wq, Hid (RL (w.heap.size + 1) 3 ⟨(sn : Int), gs, ps⟩ s sn (w.alloc (.cells #[.int .i64 sn, .slice ad gs.length cd, .slice ak ps.length ck] 29)) go gr cr k 0 wq) ∧ go = w.heap.size + 1 ∧ wq = w2 := ⟨_, _, ⟨Nat.zero_le _, hk64, HEE.out, HI.out, by rw [HE0.out]; exact own_below (own_made (n := sn) (base := w.heap.size + 1) (e := 3) (w.alloc (.cells #[.int .i64 sn, .slice ad gs.length cd, .slice ak ps.length ck] 29)).drew (by simp) (by simp) (by unfold maxLen; omega)) hb2, by omega, by simp, Below.trans (by (repeat (first | exact Below.refl _ _ | apply Below.drew | apply below_drewN | (refine Below.setCell ?_ (by first | omega | (simp; done) | (simp; omega) | (dsimp only; omega)) _) | (refine Below.alloc ?_ (by first | omega | (simp; done) | (simp; omega) | (dsimp only; omega)) _)))) (hb2.mono (by simp))⟩, rfl, rfl⟩
         rw [← hgo, ← hwq])
    clear HEE hgr HI hgz hgo hwq r0 r1 r2 z2 ho hk hfx hno hb2 z1 q0 q1 q2 hb0 hz2 hmk HEF
    go_wp2
    go_loopw [7] (fun c wr => ∃ j : Nat, c = .int .i64 j ∧ Hid (RL (w.heap.size + 1) 3 ⟨(sn : Int), gs, ps⟩ s sn (w.alloc (.cells #[.int .i64 sn, .slice ad gs.length cd, .slice ak ps.length ck] 29)) go gr cr k j wr)) (fun c _ => k + 1 - (intOf c).toNat)
    case atStart => exact ⟨0, rfl, HRL⟩
    case round =>
      obtain ⟨wo, rfl⟩ : ∃ wo : World, wo = wr := ⟨_, rfl⟩
      obtain ⟨j, rfl, HRJ⟩ := hrel
      obtain ⟨hj, hk64, hEE, hi, ho, hne, hgo, hb⟩ := HRJ.out
      have HEE := Lib.hid hEE
      have HBo := Lib.hid hb
      have HI := Lib.hid hi
      have HO := Lib.hid ho
      obtain ⟨q0, q1, q2, z1⟩ := box3 hb (by omega)
      clear hEE hb hi ho HRJ HRL
      by_cases hlt : j < k + 1
      · have hjI : (j : Int) < (k : Int) + 1 := by omega
        obtain ⟨b, off, x, hx1, HX, hbs, e0⟩ := HI.out.at j (by simpa using hlt)
        cases hx1
        rw [Nat.zero_add] at e0
        have hxv : x = ((gK ⟨(sn : Int), gs, ps⟩ s j : Nat) : Int) := by rw [← HX.out]; exact setsL_at hlt
        subst hxv
        have hgl := HGL.out j
        have HEN : Hid (entK ⟨(sn : Int), gs, ps⟩ s (j + 1) = entJ j (entK ⟨(sn : Int), gs, ps⟩ s j) (mem (reachN ⟨(sn : Int), gs, ps⟩ 0 (gK ⟨(sn : Int), gs, ps⟩ s j))) (mem (reachN ⟨(sn : Int), gs, ps⟩ 0 (gK ⟨(sn : Int), gs, ps⟩ s j))).length) := rfl
        have HLJ := Lib.hid (HEL.out j)
        obtain ⟨sN, hsN⟩ : ∃ sN, sN = gK ⟨(sn : Int), gs, ps⟩ s j := ⟨_, rfl⟩
        obtain ⟨E0, hE0⟩ : ∃ E0, E0 = entK ⟨(sn : Int), gs, ps⟩ s j := ⟨_, rfl⟩
        rw [← hsN] at HEN e0 hgl
        rw [← hE0] at HEN HLJ HO
        clear HX hsN hE0
        go_wp2
        go_region_held3 (fun W => W.cell? ⟨w.heap.size, 0, none⟩ = some (.int .i64 sn) ∧ W.cell? ⟨w.heap.size, 1, none⟩ = some (.slice ad gs.length cd) ∧ W.cell? ⟨w.heap.size, 2, none⟩ = some (.slice ak ps.length ck) ∧ W.cell? ⟨gr, j, none⟩ = some (.int .i64 sN))
          (first | exact ⟨q0, q1, q2, e0⟩ | exact ⟨r0, r1, r2, r3⟩)
          ((go_at_call 128; refine (l2ReachB_c _ ⟨(sn : Int), gs, ps⟩ 0 sN _ (hm.later (below_box HBo.out.drew (by omega))) OK.out HS1.out hgl).mono ?_; rintro e w3 ⟨nb, no, nc, rfl, hni, hnl, hnz, hb3⟩; have r0 : w3.cell? ⟨w.heap.size, 0, none⟩ = some (.int .i64 sn) := (hb3.cell (p := ⟨w.heap.size, 0, none⟩) z1).trans q0; have r1 : w3.cell? ⟨w.heap.size, 1, none⟩ = some (.slice ad gs.length cd) := (hb3.cell (p := ⟨w.heap.size, 1, none⟩) z1).trans q1; have r2 : w3.cell? ⟨w.heap.size, 2, none⟩ = some (.slice ak ps.length ck) := (hb3.cell (p := ⟨w.heap.size, 2, none⟩) z1).trans q2; have r3 : w3.cell? ⟨gr, j, none⟩ = some (.int .i64 sN) := (hb3.cell (p := ⟨gr, j, none⟩) hbs).trans e0))
        have HB3 : Hid (Below (w.heap.size + 1) (w.alloc (.cells #[.int .i64 sn, .slice ad gs.length cd, .slice ak ps.length ck] 29)) w3) := HBo.out.drew.trans (hb3.mono (by show _ ≤ wo.heap.size; omega))
        have HI3 := Lib.hid (HI.out.later (show Below wo.heap.size wo w3 from ((Below.refl _ _).drew).trans hb3))
        have HO3 : Hid (w3.ownsRow (w.heap.size + 1) 3 1 (.slice (some ⟨go, 0, none⟩) sn sn) sn (ints (entJ j E0 (mem (reachN ⟨(sn : Int), gs, ps⟩ 0 sN)) 0))) := own_below HO.out (show Below wo.heap.size wo w3 from ((Below.refl _ _).drew).trans hb3)
        have hgow : go < wo.heap.size := (Own.of HO.out).top _ rfl
        have hnb : go + 1 ≤ nb := by have : wo.heap.size ≤ nb := hnl; omega
        have hgo3 : go < w3.heap.size := by have := hb3.size; have : wo.heap.size ≤ w3.heap.size := this; omega
        have HXI := Lib.hid (HRI.out sN)
        obtain ⟨X, hXe⟩ : ∃ X, X = reachN ⟨(sn : Int), gs, ps⟩ 0 sN := ⟨_, rfl⟩
        rw [← hXe] at HXI HEN hni HO3 ⊢
        have h40 := mem_len40' X
        have hLm : Hid (∀ k x, k < (mem X).length → (mem X)[k]! = x → ∃ i : Nat, x = i ∧ X.testBit i = true) := fun k x => mem_at
        have HNI := Lib.hid hni
        clear hXe hni hnl hnz hb3 r0 r1 r2 r3 q0 q1 q2 e0 hbs
        go_wp2
        go_loopw [9] (fun c wr => ∃ i : Nat, i ≤ (mem X).length ∧ c = .int .i64 i ∧ Chg go (go + 1) w3 wr ∧ Below (w.heap.size + 1) (w.alloc (.cells #[.int .i64 sn, .slice ad gs.length cd, .slice ak ps.length ck] 29)) wr ∧ Hid (wr.ownsRow (w.heap.size + 1) 3 1 (.slice (some ⟨go, 0, none⟩) sn sn) sn (ints (entJ j E0 (mem X) i)))) (fun c _ => (mem X).length - (intOf c).toNat)
        case atStart => exact ⟨0, Nat.zero_le _, rfl, Chg.of_below (Below.refl _ _), HB3.out, HO3.out⟩
        case round =>
          obtain ⟨wi, rfl⟩ : ∃ wi : World, wi = wr := ⟨_, rfl⟩
          obtain ⟨i, hi, rfl, hci, hbi, HOi⟩ := hrel
          have HBi := Lib.hid hbi
          have HCI := Lib.hid hci
          by_cases hil : i < (mem X).length
          · have hiI : (i : Int) < ((mem X).length : Int) := by omega
            obtain ⟨b, off, x, hx1, HXx, hbs, e0⟩ := (ic_chg HNI.out hci (.inr hnb)).at i hil
            cases hx1
            obtain ⟨xn, rfl, hxb⟩ := hLm.out i x hil HXx.out
            have hxn : xn < sn := by have := HXI.out xn hxb; dsimp only at this; omega
            have hxI : (xn : Int) < (sn : Int) := by omega
            have HEl : Hid ((entJ j E0 (mem X) i).length = sn) := by show _ = _; rw [entJ_len _ _ _ _ hi]; exact HLJ.out
            have e1 := own_intK HOi.out xn hxn HEl.out
            have f1 : wi.frozen? ⟨go, xn, none⟩ = false := HOi.out.frozenAt _
            have HST : Hid (entJ j E0 (mem X) (i + 1) = entS j (entJ j E0 (mem X) i) (xn : Int)) := by show _ = _; rw [entJ_step hil, HXx.out]
            clear hci hbi hxb
            cases hz : decide ((entJ j E0 (mem X) i)[xn]! = 0)
            · have hz' : (entJ j E0 (mem X) i)[xn]! ≠ 0 := by simpa using hz
              have HSK := Lib.hid (entS_skip (i := j) hz')
              obtain ⟨ov, hov⟩ : ∃ ov, ov = (entJ j E0 (mem X) i)[xn]! := ⟨_, rfl⟩
              rw [← hov] at e1 hz'
              have HOV := Lib.hid hov
              clear hz hov
              go_wp2
              go_roundw
              case rel => exact ⟨i + 1, by omega, by go_num, HCI.out, HBi.out, by rw [HST.out, HSK.out]; exact HOi.out⟩
              case measure => simp [intOf]; omega
            · have hz' : (entJ j E0 (mem X) i)[xn]! = 0 := by simpa using hz
              have HSK := Lib.hid (entS_zero (i := j) hz')
              rw [hz'] at e1
              clear hz hz'
              have hj64 : j ≤ 64 := by omega
              go_wp2
              go_roundw
              case rel =>
                have st := own_store1 HOi.out xn ((j : Int) + 1)
                rw [← HSK.out, ← HST.out] at st
                exact ⟨i + 1, by omega, by go_num, HCI.out.trans (Chg.of_grown st.2 (fun g' hg => by cases hg; omega)), HBi.out.setCell (p := ⟨go, xn, none⟩) (by show _ ≤ go; omega) _, st.1⟩
              case measure => simp [intOf]; omega
          · obtain rfl : i = (mem X).length := by omega
            clear hci hbi
            go_wp2
            go_roundw
            case rel => exact ⟨j + 1, by go_num, by omega, by assumption, HEE.out, ic_chg HI3.out HCI.out (by omega), by rw [HEN.out]; exact HOi.out, hne, hgo, HBi.out⟩
            case measure => simp [intOf]; omega
      · obtain rfl : j = k + 1 := by omega
        have hjI : ¬ ((k : Int) + 1 < (k : Int) + 1) := by omega
        have HSE : Hid (sn = ps.length) := HSN.out
        have HBw := Lib.hid (below_box HBo.out (by omega))
        go_wp2
        go_ret
        refine ⟨_, rfl, ?_, HBw.out⟩
        show World.ownsRow _ _ _ _ _ ps.length _
        rw [HEE.out, ← HSE.out]
        exact (Own.mono (Own.of HO.out) (by omega) (Nat.le_refl _)).row
end Go.Proofs.Ytbjcabphiddjgaa
