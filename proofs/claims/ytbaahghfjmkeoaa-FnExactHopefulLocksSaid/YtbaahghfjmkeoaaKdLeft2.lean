/- Contract of l7Left. Printed by gen_left2.py. -/
import Derived.Test.YtbaahghfjmkeoaaKdLeft
import Derived.Deep.OwnRows
import Derived.Deep.RegionHeld3
set_option linter.unusedVariables false
set_option linter.unusedSimpArgs false
namespace Go.KD
open Go.RowKit
theorem ic_chgL {lo hi : Nat} {w w' : World} {b off : Nat} {l : List Int} (h : IC w (some ⟨b, off, none⟩) l) (hc : Chg lo hi w w') (hb : b < lo ∨ hi ≤ b) : IC w' (some ⟨b, off, none⟩) l := by
  intro k hk
  obtain ⟨b', off', hb', hbs, hcl⟩ := h k hk
  cases hb'
  exact ⟨b, off, rfl, Nat.lt_of_lt_of_le hbs hc.size, (hc.cell (p := ⟨b, off + k, none⟩) hbs hb).trans hcl⟩
theorem keep3L {w : World} {B : Nat} {a b c : Value} (o : Obj) (hB : B < w.heap.size) (h0 : w.cell? ⟨B, 0, none⟩ = some a) (h1 : w.cell? ⟨B, 1, none⟩ = some b) (h2 : w.cell? ⟨B, 2, none⟩ = some c) :
    (w.alloc o).cell? ⟨B, 0, none⟩ = some a ∧ (w.alloc o).cell? ⟨B, 1, none⟩ = some b ∧ (w.alloc o).cell? ⟨B, 2, none⟩ = some c := by
  have hb := (Below.refl w.heap.size w).alloc (Nat.le_refl _) o
  exact ⟨(hb.cell (p := ⟨B, 0, none⟩) hB).trans h0, (hb.cell (p := ⟨B, 1, none⟩) hB).trans h1, (hb.cell (p := ⟨B, 2, none⟩) hB).trans h2⟩
/-- A row of six whose first c entries are told. -/
def rowP (F : Nat → Int) (c : Nat) (v : Int) : List Int := row6 fun d => if d < c then F d else if d = c then v else 0
@[simp] theorem rowP_len (F : Nat → Int) (c : Nat) (v : Int) : (rowP F c v).length = 6 := by simp [rowP]
theorem rowP_zero (F : Nat → Int) : rowP F 0 0 = List.replicate 6 0 := by
  unfold rowP row6
  have : (fun d : Nat => if d < 0 then F d else if d = 0 then (0 : Int) else 0) = fun _ => 0 := by funext d; simp
  rw [this]; rfl
theorem rowP_at (F : Nat → Int) {c : Nat} (v : Int) (hc : c < 6) : (rowP F c v)[c]! = v := by unfold rowP; rw [row6_at hc]; simp
theorem rowP_set (F : Nat → Int) (c : Nat) (v v' : Int) : (rowP F c v).set c v' = rowP F c v' := by
  unfold rowP
  rw [row6_set]
  refine row6_congr fun d hd => ?_
  by_cases h : d = c
  · subst h; simp
  · rw [if_neg h, if_neg h, if_neg h]
theorem rowP_next {F : Nat → Int} {c : Nat} {v : Int} (h : v = F c) : rowP F c v = rowP F (c + 1) 0 := by
  refine row6_congr fun d hd => ?_
  subst h
  by_cases h1 : d < c
  · rw [if_pos h1, if_pos (by omega)]
  · by_cases h2 : d = c
    · subst h2; simp
    · rw [if_neg h1, if_neg h2, if_neg (by omega)]; simp
theorem rowP_end (F : Nat → Int) (v : Int) : rowP F 6 v = row6 F := row6_congr fun d hd => if_pos hd
def bit01 (x c : Nat) : Int := if x.testBit c then 1 else 0
theorem bit01_y {x c y : Nat} (h : y = x >>> c) : ((y % 2 : Nat) : Int) = bit01 x c := by
  rw [h, bit_shr]; unfold bit01; split <;> rfl
theorem cntL_bit {g : Nat → Nat} {L : List Int} {i x K : Nat} (hi : i < L.length) (hx : L[i]! = (x : Int)) (hK : g x = K) (c : Nat) : cntL g (L.take (i + 1)) c = cntL g (L.take i) c + bit01 K c := by
  unfold cntL bit01
  rw [take_snoc hi, List.countP_append, List.countP_singleton, hx, Int.toNat_natCast, hK]
  split <;> simp
end Go.KD
namespace Go.Proofs.Ytbaahghfjmkeoaa
open Go.RowKit Go.KD
attribute [local go_sem] later_cell later_frozen
theorem own_madeL {base n g : Nat} {e : TypeId} (W : World) (hg : g = W.heap.size) (hb : base ≤ W.heap.size) (hn : n ≤ maxLen) : (W.alloc (.cells (madeCells #[.int .i64 0] n) e)).ownsRow base e 1 (.slice (some ⟨g, 0, none⟩) n n) n (ints (List.replicate n 0)) := by
  subst hg
  have h := World.ownsRow_lit (base := base) (e := e) (size := 1) W (madeCells #[.int .i64 0] n) n hb hn (by simp [madeCells])
  have hm := madeI n
  rw [Nat.mul_one] at hm
  rw [show (Value.int .i64 0).cells = #[Value.int .i64 0] from rfl] at hm
  rwa [hm] at h
set_option maxRecDepth 100000 in
set_option maxHeartbeats 16000000 in
theorem l7Left_c (v : Value) (m : Mz) (O : Nat) (aL : Option Addr) (cL : Nat) (L : List Int) (w : World) (hm : MzAt w v m) (ok : MzOk m) (hL : IC w aL L) (hLl : L.length ≤ 40) (hLO : ∀ k : Nat, k < m.doors.length → hasI L (k : Int) = O.testBit k) (hLd : ∀ j, j < L.length → ∃ i : Nat, L[j]! = (i : Int) ∧ i < m.doors.length) : Calls Try.prog 98 #[v, .slice aL L.length cL] w fun e w' => ∃ g, e = .returned (.slice (some ⟨g, 0, none⟩) 6 6) ∧ w'.ownsRow w.heap.size 3 1 (.slice (some ⟨g, 0, none⟩) 6 6) 6 (ints (leftL m (nearN m O) L)) ∧ Below w.heap.size w w' := by
  have hM := hm
  obtain ⟨⟨ad, cd, ak, ck, rfl, hd, hk'⟩, nd, nk⟩ := hM
  obtain ⟨i0, ji, jz0, jz1, jz2⟩ := info_parts infoI
  have hng : m.doors.length ≤ 30 := ok.nd
  have hnk : (m.keys.length : Int) = m.size := ok.nk
  have HNK := Lib.hid hnk; clear hnk
  have HLD := Lib.hid hLd; clear hLd
  have HLO := Lib.hid hLO; clear hLO
  have HNIN := Lib.hid (nearN_in ok O)
  have hNl := (nearN_in ok O).lt ok
  have HLR := Lib.hid (leftL_row m (nearN m O) L)
  have OK := Lib.hid ok; clear ok
  have hmk : ∀ W : World, (Instr.makeSlice 23 (.int .i64 6) (.int .i64 6)).run Try.prog W = .ok (.slice (some ⟨W.heap.size, 0, none⟩) 6 6) (W.alloc (.cells (madeCells #[.int .i64 0] 6) 3)) := fun W => run_make_row' 23 3 (.int .i64 0) 8 Try.underlying23 infoI rfl .i64 .i64 6 (by omega) (by omega) W
  go_enter Try.func98, Try.ntmps98
  go_wp2
  have hb0 : Below (w.heap.size + 1) (w.alloc (.cells #[.int .i64 m.size, .slice ad m.doors.length cd, .slice ak m.keys.length ck] 29)) (w.alloc (.cells #[.int .i64 m.size, .slice ad m.doors.length cd, .slice ak m.keys.length ck] 29)).drew := (Below.refl _ _).drew
  obtain ⟨q0, q1, q2, z1⟩ := box3 hb0 (by omega)
  go_region_held3 (fun W => W.cell? ⟨w.heap.size, 0, none⟩ = some (.int .i64 m.size) ∧ W.cell? ⟨w.heap.size, 1, none⟩ = some (.slice ad m.doors.length cd) ∧ W.cell? ⟨w.heap.size, 2, none⟩ = some (.slice ak m.keys.length ck))
    (first | exact ⟨q0, q1, q2⟩ | exact ⟨r0, r1, r2⟩ | exact keep3L _ z1 q0 q1 q2 | exact keep3L _ z2 r0 r1 r2 | (dsimp only; exact keep3L _ z1 q0 q1 q2))
    ((go_at_call 96; refine (l7Near_c _ m O _ _ L _ (hm.later (by (repeat (first | exact Below.refl _ _ | apply Below.drew | apply below_drewN | (refine Below.setCell ?_ (by first | omega | (simp; done) | (simp; omega) | (dsimp only; omega)) _) | (refine Below.alloc ?_ (by first | omega | (simp; done) | (simp; omega) | (dsimp only; omega)) _))))) OK.out (hL.later (by (repeat (first | exact Below.refl _ _ | apply Below.drew | apply below_drewN | (refine Below.setCell ?_ (by first | omega | (simp; done) | (simp; omega) | (dsimp only; omega)) _) | (refine Below.alloc ?_ (by first | omega | (simp; done) | (simp; omega) | (dsimp only; omega)) _))))) (by omega) HLO.out).mono ?_; rintro e w2 ⟨u, rfl, hlm, hb2⟩; obtain ⟨gr, orr, cr, rfl, hni, -, -, hgr, hgz⟩ := hlm; have r0 : w2.cell? ⟨w.heap.size, 0, none⟩ = some (.int .i64 m.size) := (hb2.cell (p := ⟨w.heap.size, 0, none⟩) (by first | (simp; done) | (simp; omega))).trans (by simp [go_sem]); have r1 : w2.cell? ⟨w.heap.size, 1, none⟩ = some (.slice ad m.doors.length cd) := (hb2.cell (p := ⟨w.heap.size, 1, none⟩) (by first | (simp; done) | (simp; omega))).trans (by simp [go_sem]); have r2 : w2.cell? ⟨w.heap.size, 2, none⟩ = some (.slice ak m.keys.length ck) := (hb2.cell (p := ⟨w.heap.size, 2, none⟩) (by first | (simp; done) | (simp; omega))).trans (by simp [go_sem]); have z2 : w.heap.size < w2.heap.size := Nat.lt_of_lt_of_le (by first | (simp; done) | (simp; omega)) hb2.size))
  all_goals
    simp only [World.size_alloc, World.size_drew] at hgr
    have HNI2 := Lib.hid hni
    have hz2 : w.heap.size + 1 ≤ w2.heap.size := z2
    first
      | (obtain ⟨go, w3, HR3, HB3, HNI, hgo, hgn, hgo', hw3⟩ : ∃ go w3, Hid (World.ownsRow w3 (w.heap.size + 1) 3 1 (.slice (some ⟨go, 0, none⟩) 6 6) 6 (ints (List.replicate 6 0))) ∧ Hid (Below (w.heap.size + 1) (w.alloc (.cells #[.int .i64 m.size, .slice ad m.doors.length cd, .slice ak m.keys.length ck] 29)) w3) ∧ Hid (IC w3 (some ⟨gr, orr, none⟩) (mem (nearN m O))) ∧ w.heap.size + 1 ≤ go ∧ gr ≠ go ∧ go = w2.heap.size ∧ w3 = w2.alloc (.cells (madeCells #[.int .i64 0] 6) 3) := ⟨_, _, own_madeL _ rfl hz2 (by unfold maxLen; omega), Below.alloc (Below.trans (by (repeat (first | exact Below.refl _ _ | apply Below.drew | apply below_drewN | (refine Below.setCell ?_ (by first | omega | (simp; done) | (simp; omega) | (dsimp only; omega)) _) | (refine Below.alloc ?_ (by first | omega | (simp; done) | (simp; omega) | (dsimp only; omega)) _)))) (hb2.mono (by simp))) hz2 _, HNI2.out.later ((Below.refl _ _).alloc (Nat.le_refl _) _), hz2, by omega, rfl, rfl⟩
         rw [← hgo', ← hw3])
      | (obtain ⟨go, w3, HR3, HB3, HNI, hgo, hgn, hgo', hw3⟩ : ∃ go w3, Hid (World.ownsRow w3 (w.heap.size + 1) 3 1 (.slice (some ⟨go, 0, none⟩) 6 6) 6 (ints (List.replicate 6 0))) ∧ Hid (Below (w.heap.size + 1) (w.alloc (.cells #[.int .i64 m.size, .slice ad m.doors.length cd, .slice ak m.keys.length ck] 29)) w3) ∧ Hid (IC w3 (some ⟨gr, orr, none⟩) (mem (nearN m O))) ∧ w.heap.size + 1 ≤ go ∧ gr ≠ go ∧ go = w.heap.size + 1 ∧ w3 = w2 := ⟨_, _, own_below (own_madeL (n := 6) (base := w.heap.size + 1) (e := 3) (w.alloc (.cells #[.int .i64 m.size, .slice ad m.doors.length cd, .slice ak m.keys.length ck] 29)).drew (by simp) (by simp) (by unfold maxLen; omega)) hb2, Below.trans (by (repeat (first | exact Below.refl _ _ | apply Below.drew | apply below_drewN | (refine Below.setCell ?_ (by first | omega | (simp; done) | (simp; omega) | (dsimp only; omega)) _) | (refine Below.alloc ?_ (by first | omega | (simp; done) | (simp; omega) | (dsimp only; omega)) _)))) (hb2.mono (by simp)), HNI2.out, by simp, by omega, rfl, rfl⟩
         rw [← hgo', ← hw3])
    clear HNI2 hgr hgz hgo' hw3 hni hb2 r0 r1 r2 z2 q0 q1 q2 z1 hb0 hz2 hmk
    obtain ⟨N, hN⟩ : ∃ N, N = nearN m O := ⟨_, rfl⟩
    rw [← hN] at HNIN hNl HLR HNI ⊢
    have h40 := mem_len40z N
    have HN := Lib.hid hN; clear hN
    go_wp2
    go_loopw [7] (fun c wr => ∃ k : Nat, k ≤ 6 ∧ c = .int .i64 k ∧ Chg go (go + 1) w3 wr ∧ Below (w.heap.size + 1) (w.alloc (.cells #[.int .i64 m.size, .slice ad m.doors.length cd, .slice ak m.keys.length ck] 29)) wr ∧ Hid (wr.ownsRow (w.heap.size + 1) 3 1 (.slice (some ⟨go, 0, none⟩) 6 6) 6 (ints (rowP (fun c => cntL (keyG m) (mem N) c - cntL (doorG m) L c) k (0))))) (fun c _ => 6 - (intOf c).toNat)
    case atStart => exact ⟨0, by omega, rfl, Chg.of_below (Below.refl _ _), HB3.out, by rw [rowP_zero]; exact HR3.out⟩
    case round =>
      obtain ⟨wo, rfl⟩ : ∃ wo : World, wo = wr := ⟨_, rfl⟩
      obtain ⟨c, hc, rfl, hch, hb, HO⟩ := hrel
      have HBSA := Lib.hid hb
      have HCSA := Lib.hid hch
      clear hch hb
      by_cases hc6 : c < 6
      · have hc6I : (c : Int) < 6 := by omega
        have HRSA : Hid (wo.ownsRow (w.heap.size + 1) 3 1 (.slice (some ⟨go, 0, none⟩) 6 6) 6 (ints (rowP (fun c => cntL (keyG m) (mem N) c - cntL (doorG m) L c) c (cntL (keyG m) ((mem N).take 0) c)))) := by
          have e : cntL (keyG m) ((mem N).take 0) c = 0 := by simp [cntL]
          rw [e]; exact HO.out
        go_wp2
        go_loopw [8] (fun n wr => ∃ i : Nat, i ≤ (mem N).length ∧ n = .int .i64 i ∧ Chg go (go + 1) w3 wr ∧ Below (w.heap.size + 1) (w.alloc (.cells #[.int .i64 m.size, .slice ad m.doors.length cd, .slice ak m.keys.length ck] 29)) wr ∧ Hid (wr.ownsRow (w.heap.size + 1) 3 1 (.slice (some ⟨go, 0, none⟩) 6 6) 6 (ints (rowP (fun c => cntL (keyG m) (mem N) c - cntL (doorG m) L c) c (cntL (keyG m) ((mem N).take i) c))))) (fun n _ => (mem N).length - (intOf n).toNat)
        case atStart => exact ⟨0, Nat.zero_le _, rfl, HCSA.out, HBSA.out, HRSA.out⟩
        case round =>
          obtain ⟨wi, rfl⟩ : ∃ wi : World, wi = wr := ⟨_, rfl⟩
          obtain ⟨i, hi, rfl, hch, hb, HR⟩ := hrel
          have HBi := Lib.hid hb
          have HCi := Lib.hid hch
          obtain ⟨q0, q1, q2, z3⟩ := box3 hb (by omega)
          by_cases hil : i < (mem N).length
          · have hiI : (i : Int) < ((mem N).length : Int) := by omega
            obtain ⟨b, off, x, hax, HX, hbs, e0⟩ := (ic_chgL HNI.out hch (by omega)).at i hil
            cases hax
            obtain ⟨xn, hxe, hxb⟩ := mem_atZ hil HX.out
            subst hxe
            have hxk : xn < m.keys.length := by have := HNIN.out xn hxb; have := HNK.out; omega
            have hxI : (xn : Int) < (m.keys.length : Int) := by omega
            have hky := key_facts OK.out hxk
            obtain ⟨b2, off2, y, hay, HY, hbs2, e1⟩ := (hk'.later (below_box HBi.out (by omega))).at xn hxk
            subst hay
            rw [HY.out] at hky
            obtain ⟨K, rfl⟩ := Int.eq_ofNat_of_zero_le hky.1
            have HG : Hid (keyG m xn = K) := by show _ = _; unfold keyG; rw [HY.out]; rfl
            have hbd : -1000 ≤ cntL (keyG m) ((mem N).take i) c ∧ cntL (keyG m) ((mem N).take i) c ≤ 1000 := by
              have h1 := cntL_bound (keyG m) ((mem N).take i) c
              have h2 := mem_len40z N
              have h3 : ((mem N).take i).length ≤ (mem N).length := by simp; omega
              omega
            have HST := Lib.hid (cntL_bit hil HX.out HG.out c)
            obtain ⟨pv, hpv⟩ : ∃ pv, pv = cntL (keyG m) ((mem N).take i) c := ⟨_, rfl⟩
            rw [← hpv] at hbd HR
            have HPV := Lib.hid hpv
            have e5 := own_intZ HR.out c hc6 (by simp)
            rw [rowP_at _ _ hc6] at e5
            have f5 : wi.frozen? ⟨go, c, none⟩ = false := HR.out.frozenAt _
            obtain ⟨yv, HYV, ey⟩ := shr_at K c
            have hyv : yv < 1099511627776 := by
              have := HYV.out; rw [Nat.shiftRight_eq_div_pow] at this; have := Nat.div_le_self K (2 ^ c); omega
            have ea := and1 hyv
            have hm2 : yv % 2 < 2 := Nat.mod_lt _ (by omega)
            have HBY := Lib.hid (bit01_y HYV.out)
            have hc0 : (0 : Int) ≤ (c : Int) := by omega
            have hc1 : (c : Int) ≤ 63 := by omega
            have hcI : (c : Int) < 6 := by omega
            have hw : IntKind.i64.wrap (pv + ((yv % 2 : Nat) : Int)) = pv + ((yv % 2 : Nat) : Int) := by rw [IntKind.wrap_i64]; omega
            clear hyv hpv hch hb hxb
            go_wp2
            refine wp_region_tail 18 (by kernel_rfl) (by kernel_rfl) ?_
            simp only [List.take_succ_cons, List.take_zero, List.drop_succ_cons, List.drop_zero]
            repeat still_step
            refine wpStill_nil ?_
            go_wp2
            go_roundw
            case rel =>
              have st := own_store1 HR.out c (pv + ((yv % 2 : Nat) : Int))
              rw [rowP_set] at st
              refine ⟨i + 1, by omega, by go_num, ?_, ?_, ?_⟩
              · exact (HCi.out.trans (Chg.of_grown st.2 (fun g' hg => by cases hg; omega))).trans (Chg.of_below ((Below.refl _ _).drew))
              · exact (HBi.out.setCell (p := ⟨go, c, none⟩) (by show _ ≤ go; omega) _).drew
              · have he : cntL (keyG m) ((mem N).take (i + 1)) c = pv + ((yv % 2 : Nat) : Int) := by
                  rw [HST.out, HPV.out, HBY.out]
                rw [he]
                exact st.1.drew
            case measure => simp [intOf]; omega
          · obtain rfl : i = (mem N).length := by omega
            clear hch hb
            have HBSB := HBi
            have HCSB := HCi
            have HRSB : Hid (wi.ownsRow (w.heap.size + 1) 3 1 (.slice (some ⟨go, 0, none⟩) 6 6) 6 (ints (rowP (fun c => cntL (keyG m) (mem N) c - cntL (doorG m) L c) c (cntL (keyG m) (mem N) c - cntL (doorG m) (L.take 0) c)))) := by
              have h := HR.out
              rw [List.take_length] at h
              have e : cntL (keyG m) (mem N) c - cntL (doorG m) (L.take 0) c = cntL (keyG m) (mem N) c := by simp [cntL]
              show World.ownsRow _ _ _ _ _ _ _
              rw [e]; exact h
            clear HR HBi HCi q0 q1 q2
            go_wp2
            go_loopw [9] (fun n wr => ∃ i : Nat, i ≤ L.length ∧ n = .int .i64 i ∧ Chg go (go + 1) w3 wr ∧ Below (w.heap.size + 1) (w.alloc (.cells #[.int .i64 m.size, .slice ad m.doors.length cd, .slice ak m.keys.length ck] 29)) wr ∧ Hid (wr.ownsRow (w.heap.size + 1) 3 1 (.slice (some ⟨go, 0, none⟩) 6 6) 6 (ints (rowP (fun c => cntL (keyG m) (mem N) c - cntL (doorG m) L c) c (cntL (keyG m) (mem N) c - cntL (doorG m) (L.take i) c))))) (fun n _ => L.length - (intOf n).toNat)
            case atStart => exact ⟨0, Nat.zero_le _, rfl, HCSB.out, HBSB.out, HRSB.out⟩
            case round =>
              obtain ⟨wi, rfl⟩ : ∃ wi : World, wi = wr := ⟨_, rfl⟩
              obtain ⟨i, hi, rfl, hch, hb, HR⟩ := hrel
              have HBi := Lib.hid hb
              have HCi := Lib.hid hch
              obtain ⟨q0, q1, q2, z3⟩ := box3 hb (by omega)
              by_cases hil : i < L.length
              · have hiI : (i : Int) < (L.length : Int) := by omega
                obtain ⟨b, off, x, hax, HX, hbs, e0⟩ := (hL.later (below_box HBi.out (by omega))).at i hil
                subst hax
                obtain ⟨xn, hxe, hxk⟩ := HLD.out i hil
                rw [HX.out] at hxe
                subst hxe
                have hxI : (xn : Int) < (m.doors.length : Int) := by omega
                obtain ⟨b2, off2, y0, y1, y, hay, HY, hbs2, e1x, e1y, e1⟩ := (hd.later (below_box HBi.out (by omega))).at xn hxk
                subst hay
                obtain ⟨f1, f2, f3, f4, f5⟩ := door_facts OK.out hxk HY.out
                obtain ⟨K, rfl⟩ := Int.eq_ofNat_of_zero_le f4
                have hky : (0 : Int) ≤ K ∧ (K : Int) < 64 := ⟨f4, f5⟩
                have HG : Hid (doorG m xn = K) := by show _ = _; unfold doorG; rw [HY.out]; rfl
                clear f1 f2 f3 f4 f5 e1x e1y
                have hbd : -1000 ≤ cntL (keyG m) (mem N) c - cntL (doorG m) (L.take i) c ∧ cntL (keyG m) (mem N) c - cntL (doorG m) (L.take i) c ≤ 1000 := by
                  have h1 := cntL_bound (keyG m) (mem N) c
                  have h2 := mem_len40z N
                  have h4 := cntL_bound (doorG m) (L.take i) c; have h6 : (L.take i).length ≤ L.length := by simp; omega
                  omega
                have HST := Lib.hid (cntL_bit hil HX.out HG.out c)
                obtain ⟨pv, hpv⟩ : ∃ pv, pv = cntL (keyG m) (mem N) c - cntL (doorG m) (L.take i) c := ⟨_, rfl⟩
                rw [← hpv] at hbd HR
                have HPV := Lib.hid hpv
                have e5 := own_intZ HR.out c hc6 (by simp)
                rw [rowP_at _ _ hc6] at e5
                have f5 : wi.frozen? ⟨go, c, none⟩ = false := HR.out.frozenAt _
                obtain ⟨yv, HYV, ey⟩ := shr_at K c
                have hyv : yv < 1099511627776 := by
                  have := HYV.out; rw [Nat.shiftRight_eq_div_pow] at this; have := Nat.div_le_self K (2 ^ c); omega
                have ea := and1 hyv
                have hm2 : yv % 2 < 2 := Nat.mod_lt _ (by omega)
                have HBY := Lib.hid (bit01_y HYV.out)
                have hc0 : (0 : Int) ≤ (c : Int) := by omega
                have hc1 : (c : Int) ≤ 63 := by omega
                have hcI : (c : Int) < 6 := by omega
                have hw : IntKind.i64.wrap (pv - ((yv % 2 : Nat) : Int)) = pv - ((yv % 2 : Nat) : Int) := by rw [IntKind.wrap_i64]; omega
                clear hyv hpv hch hb
                go_wp2
                refine wp_region_tail 19 (by kernel_rfl) (by kernel_rfl) ?_
                simp only [List.take_succ_cons, List.take_zero, List.drop_succ_cons, List.drop_zero]
                repeat still_step
                refine wpStill_nil ?_
                go_wp2
                go_roundw
                case rel =>
                  have st := own_store1 HR.out c (pv - ((yv % 2 : Nat) : Int))
                  rw [rowP_set] at st
                  refine ⟨i + 1, by omega, by go_num, ?_, ?_, ?_⟩
                  · exact (HCi.out.trans (Chg.of_grown st.2 (fun g' hg => by cases hg; omega))).trans (Chg.of_below ((Below.refl _ _).drew))
                  · exact (HBi.out.setCell (p := ⟨go, c, none⟩) (by show _ ≤ go; omega) _).drew
                  · have he : cntL (keyG m) (mem N) c - cntL (doorG m) (L.take (i + 1)) c = pv - ((yv % 2 : Nat) : Int) := by
                      rw [HST.out, HPV.out, HBY.out]; omega
                    rw [he]
                    exact st.1.drew
                case measure => simp [intOf]; omega
              · obtain rfl : i = L.length := by omega
                clear hch hb
                have HRN : Hid (wi.ownsRow (w.heap.size + 1) 3 1 (.slice (some ⟨go, 0, none⟩) 6 6) 6 (ints (rowP (fun c => cntL (keyG m) (mem N) c - cntL (doorG m) L c) (c + 1) (0)))) := by
                  have h := HR.out
                  rw [List.take_length, rowP_next (F := (fun c => cntL (keyG m) (mem N) c - cntL (doorG m) L c)) (c := c) rfl] at h
                  exact h
                go_wp2
                go_roundw
                case rel => exact ⟨c + 1, by omega, by go_num, HCi.out, HBi.out, HRN.out⟩
                case measure => simp [intOf]; omega
      · obtain rfl : c = 6 := by omega
        have HRF : Hid (wo.ownsRow (w.heap.size + 1) 3 1 (.slice (some ⟨go, 0, none⟩) 6 6) 6 (ints (leftL m (nearN m O) L))) := by
          have h := HO.out
          rw [rowP_end, ← HLR.out, HN.out] at h
          exact h
        have HBf := Lib.hid (below_box HBSA.out (by omega))
        clear HO
        go_wp2
        go_ret
        exact ⟨go, rfl, (Own.mono (Own.of HRF.out) (by omega) (Nat.le_refl _)).row, HBf.out⟩
end Go.Proofs.Ytbaahghfjmkeoaa
