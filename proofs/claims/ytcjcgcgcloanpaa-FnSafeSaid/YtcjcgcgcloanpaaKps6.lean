/- Contract of l7Left. Printed by gen_left2.py. Contract of l7Next. Printed by gen_next.py. Contracts of rounds, atLast, canWin. Contracts of setWins, winning, those. Contracts of SwapFilling. A filling laid: plain words; 'clear' of a row of numbers. No program is named here. -/
import Derived.Test.YtcjcgcgcloanpaaKps5
import Derived.Deep.OwnRows
import Derived.Deep.RegionHeld3
import Derived.Deep.AppendLies
import Derived.Deep.DeepCutAuto
import Derived.BigQuiet
import Derived.Test.YtcjcgcgcloanpaaKps2
import Derived.Test.YtcjcgcgcloanpaaKps4
import Derived.Test.YtcjcgcgcloanpaaKps0
import Derived.RegionTactic
import Derived.ChangeAlike
set_option linter.unusedVariables false
set_option linter.unusedSimpArgs false
namespace Go.KD
open Go.RowKit
theorem ic_chgL {lo hi : Nat} {w w' : World} {b off : Nat} {l : List Int} (h : IC w (some ⟨b, off, none⟩) l) (hc : Chg lo hi w w') (hb : b < lo ∨ hi ≤ b) : IC w' (some ⟨b, off, none⟩) l := by
  intro k hk
  obtain ⟨b', off', hb', hbs, hcl⟩ := h k hk
  cases hb'
  exact ⟨b, off, rfl, Nat.lt_of_lt_of_le hbs hc.size, (hc.cell (p := ⟨b, off + k, none⟩) hbs hb).trans hcl⟩
theorem keep3L {w : World} {B : Nat} {a b c : Value} (o : Obj) (hB : B < w.heap.size) (h0 : w.cell? ⟨B, 0, none⟩ = some a) (h1 : w.cell? ⟨B, 1, none⟩ = some b) (h2 : w.cell? ⟨B, 2, none⟩ = some c) :
    (w.alloc o).cell? ⟨B, 0, none⟩ = some a ∧ (w.alloc o).cell? ⟨B, 1, none⟩ = some b ∧ (w.alloc o).cell? ⟨B, 2, none⟩ = some c := by
  have hb := (Below.refl w.heap.size w).alloc (Nat.le_refl _) o
  exact ⟨(hb.cell (p := ⟨B, 0, none⟩) hB).trans h0, (hb.cell (p := ⟨B, 1, none⟩) hB).trans h1, (hb.cell (p := ⟨B, 2, none⟩) hB).trans h2⟩
/-- A row of six whose first c entries are told. -/
def rowP (F : Nat → Int) (c : Nat) (v : Int) : List Int := row6 fun d => if d < c then F d else if d = c then v else 0
@[simp] theorem rowP_len (F : Nat → Int) (c : Nat) (v : Int) : (rowP F c v).length = 6 := by simp [rowP]
theorem rowP_zero (F : Nat → Int) : rowP F 0 0 = List.replicate 6 0 := by
  unfold rowP row6
  have : (fun d : Nat => if d < 0 then F d else if d = 0 then (0 : Int) else 0) = fun _ => 0 := by funext d; simp
  rw [this]; rfl
theorem rowP_at (F : Nat → Int) {c : Nat} (v : Int) (hc : c < 6) : (rowP F c v)[c]! = v := by unfold rowP; rw [row6_at hc]; simp
theorem rowP_set (F : Nat → Int) (c : Nat) (v v' : Int) : (rowP F c v).set c v' = rowP F c v' := by
  unfold rowP
  rw [row6_set]
  refine row6_congr fun d hd => ?_
  by_cases h : d = c
  · subst h; simp
  · rw [if_neg h, if_neg h, if_neg h]
theorem rowP_next {F : Nat → Int} {c : Nat} {v : Int} (h : v = F c) : rowP F c v = rowP F (c + 1) 0 := by
  refine row6_congr fun d hd => ?_
  subst h
  by_cases h1 : d < c
  · rw [if_pos h1, if_pos (by omega)]
  · by_cases h2 : d = c
    · subst h2; simp
    · rw [if_neg h1, if_neg h2, if_neg (by omega)]; simp
theorem rowP_end (F : Nat → Int) (v : Int) : rowP F 6 v = row6 F := row6_congr fun d hd => if_pos hd
def bit01 (x c : Nat) : Int := if x.testBit c then 1 else 0
theorem bit01_y {x c y : Nat} (h : y = x >>> c) : ((y % 2 : Nat) : Int) = bit01 x c := by
  rw [h, bit_shr]; unfold bit01; split <;> rfl
theorem cntL_bit {g : Nat → Nat} {L : List Int} {i x K : Nat} (hi : i < L.length) (hx : L[i]! = (x : Int)) (hK : g x = K) (c : Nat) : cntL g (L.take (i + 1)) c = cntL g (L.take i) c + bit01 K c := by
  unfold cntL bit01
  rw [take_snoc hi, List.countP_append, List.countP_singleton, hx, Int.toNat_natCast, hK]
  split <;> simp
end Go.KD
namespace Go.Proofs.Ytcjcgcgcloanpaa
open Go.RowKit Go.KD
attribute [local go_sem] later_cell later_frozen
theorem own_madeL {base n g : Nat} {e : TypeId} (W : World) (hg : g = W.heap.size) (hb : base ≤ W.heap.size) (hn : n ≤ maxLen) : (W.alloc (.cells (madeCells #[.int .i64 0] n) e)).ownsRow base e 1 (.slice (some ⟨g, 0, none⟩) n n) n (ints (List.replicate n 0)) := by
  subst hg
  have h := World.ownsRow_lit (base := base) (e := e) (size := 1) W (madeCells #[.int .i64 0] n) n hb hn (by simp [madeCells])
  have hm := madeI n
  rw [Nat.mul_one] at hm
  rw [show (Value.int .i64 0).cells = #[Value.int .i64 0] from rfl] at hm
  rwa [hm] at h
set_option maxRecDepth 100000 in
set_option maxHeartbeats 16000000 in
theorem l7Left_c (v : Value) (m : Mz) (O : Nat) (aL : Option Addr) (cL : Nat) (L : List Int) (w : World) (hm : MzAt w v m) (ok : MzOk m) (hL : IC w aL L) (hLl : L.length ≤ 40) (hLO : ∀ k : Nat, k < m.doors.length → hasI L (k : Int) = O.testBit k) (hLd : ∀ j, j < L.length → ∃ i : Nat, L[j]! = (i : Int) ∧ i < m.doors.length) : Calls Try.prog 82 #[v, .slice aL L.length cL] w fun e w' => ∃ g, e = .returned (.slice (some ⟨g, 0, none⟩) 6 6) ∧ w'.ownsRow w.heap.size 3 1 (.slice (some ⟨g, 0, none⟩) 6 6) 6 (ints (leftL m (nearN m O) L)) ∧ Below w.heap.size w w' := by
  have hM := hm
  obtain ⟨⟨ad, cd, ak, ck, rfl, hd, hk'⟩, nd, nk⟩ := hM
  obtain ⟨i0, ji, jz0, jz1, jz2⟩ := info_parts infoI
  have hng : m.doors.length ≤ 30 := ok.nd
  have hnk : (m.keys.length : Int) = m.size := ok.nk
  have HNK := Lib.hid hnk; clear hnk
  have HLD := Lib.hid hLd; clear hLd
  have HLO := Lib.hid hLO; clear hLO
  have HNIN := Lib.hid (nearN_in ok O)
  have hNl := (nearN_in ok O).lt ok
  have HLR := Lib.hid (leftL_row m (nearN m O) L)
  have OK := Lib.hid ok; clear ok
  have hmk : ∀ W : World, (Instr.makeSlice 25 (.int .i64 6) (.int .i64 6)).run Try.prog W = .ok (.slice (some ⟨W.heap.size, 0, none⟩) 6 6) (W.alloc (.cells (madeCells #[.int .i64 0] 6) 3)) := fun W => run_make_row' 25 3 (.int .i64 0) 8 Try.underlying25 infoI rfl .i64 .i64 6 (by omega) (by omega) W
  go_enter Try.func82, Try.ntmps82
  go_wp2
  have hb0 : Below (w.heap.size + 1) (w.alloc (.cells #[.int .i64 m.size, .slice ad m.doors.length cd, .slice ak m.keys.length ck] 27)) (w.alloc (.cells #[.int .i64 m.size, .slice ad m.doors.length cd, .slice ak m.keys.length ck] 27)).drew := (Below.refl _ _).drew
  obtain ⟨q0, q1, q2, z1⟩ := box3 hb0 (by omega)
  go_region_held3 (fun W => W.cell? ⟨w.heap.size, 0, none⟩ = some (.int .i64 m.size) ∧ W.cell? ⟨w.heap.size, 1, none⟩ = some (.slice ad m.doors.length cd) ∧ W.cell? ⟨w.heap.size, 2, none⟩ = some (.slice ak m.keys.length ck))
    (first | exact ⟨q0, q1, q2⟩ | exact ⟨r0, r1, r2⟩ | exact keep3L _ z1 q0 q1 q2 | exact keep3L _ z2 r0 r1 r2 | (dsimp only; exact keep3L _ z1 q0 q1 q2))
    ((go_at_call 80; refine (l7Near_c _ m O _ _ L _ (hm.later (by (repeat (first | exact Below.refl _ _ | apply Below.drew | apply below_drewN | (refine Below.setCell ?_ (by first | omega | (simp; done) | (simp; omega) | (dsimp only; omega)) _) | (refine Below.alloc ?_ (by first | omega | (simp; done) | (simp; omega) | (dsimp only; omega)) _))))) OK.out (hL.later (by (repeat (first | exact Below.refl _ _ | apply Below.drew | apply below_drewN | (refine Below.setCell ?_ (by first | omega | (simp; done) | (simp; omega) | (dsimp only; omega)) _) | (refine Below.alloc ?_ (by first | omega | (simp; done) | (simp; omega) | (dsimp only; omega)) _))))) (by omega) HLO.out).mono ?_; rintro e w2 ⟨u, rfl, hlm, hb2⟩; obtain ⟨gr, orr, cr, rfl, hni, -, -, hgr, hgz⟩ := hlm; have r0 : w2.cell? ⟨w.heap.size, 0, none⟩ = some (.int .i64 m.size) := (hb2.cell (p := ⟨w.heap.size, 0, none⟩) (by first | (simp; done) | (simp; omega))).trans (by simp [go_sem]); have r1 : w2.cell? ⟨w.heap.size, 1, none⟩ = some (.slice ad m.doors.length cd) := (hb2.cell (p := ⟨w.heap.size, 1, none⟩) (by first | (simp; done) | (simp; omega))).trans (by simp [go_sem]); have r2 : w2.cell? ⟨w.heap.size, 2, none⟩ = some (.slice ak m.keys.length ck) := (hb2.cell (p := ⟨w.heap.size, 2, none⟩) (by first | (simp; done) | (simp; omega))).trans (by simp [go_sem]); have z2 : w.heap.size < w2.heap.size := Nat.lt_of_lt_of_le (by first | (simp; done) | (simp; omega)) hb2.size))
  all_goals
    simp only [World.size_alloc, World.size_drew] at hgr
    have HNI2 := Lib.hid hni
    have hz2 : w.heap.size + 1 ≤ w2.heap.size := z2
    first
      | (obtain ⟨go, w3, HR3, HB3, HNI, hgo, hgn, hgo', hw3⟩ : ∃ go w3, Hid (World.ownsRow w3 (w.heap.size + 1) 3 1 (.slice (some ⟨go, 0, none⟩) 6 6) 6 (ints (List.replicate 6 0))) ∧ Hid (Below (w.heap.size + 1) (w.alloc (.cells #[.int .i64 m.size, .slice ad m.doors.length cd, .slice ak m.keys.length ck] 27)) w3) ∧ Hid (IC w3 (some ⟨gr, orr, none⟩) (mem (nearN m O))) ∧ w.heap.size + 1 ≤ go ∧ gr ≠ go ∧ go = w2.heap.size ∧ w3 = w2.alloc (.cells (madeCells #[.int .i64 0] 6) 3) := ⟨_, _, own_madeL _ rfl hz2 (by unfold maxLen; omega), Below.alloc (Below.trans (by (repeat (first | exact Below.refl _ _ | apply Below.drew | apply below_drewN | (refine Below.setCell ?_ (by first | omega | (simp; done) | (simp; omega) | (dsimp only; omega)) _) | (refine Below.alloc ?_ (by first | omega | (simp; done) | (simp; omega) | (dsimp only; omega)) _)))) (hb2.mono (by simp))) hz2 _, HNI2.out.later ((Below.refl _ _).alloc (Nat.le_refl _) _), hz2, by omega, rfl, rfl⟩
         rw [← hgo', ← hw3])
      | (obtain ⟨go, w3, HR3, HB3, HNI, hgo, hgn, hgo', hw3⟩ : ∃ go w3, Hid (World.ownsRow w3 (w.heap.size + 1) 3 1 (.slice (some ⟨go, 0, none⟩) 6 6) 6 (ints (List.replicate 6 0))) ∧ Hid (Below (w.heap.size + 1) (w.alloc (.cells #[.int .i64 m.size, .slice ad m.doors.length cd, .slice ak m.keys.length ck] 27)) w3) ∧ Hid (IC w3 (some ⟨gr, orr, none⟩) (mem (nearN m O))) ∧ w.heap.size + 1 ≤ go ∧ gr ≠ go ∧ go = w.heap.size + 1 ∧ w3 = w2 := ⟨_, _, own_below (own_madeL (n := 6) (base := w.heap.size + 1) (e := 3) (w.alloc (.cells #[.int .i64 m.size, .slice ad m.doors.length cd, .slice ak m.keys.length ck] 27)).drew (by simp) (by simp) (by unfold maxLen; omega)) hb2, Below.trans (by (repeat (first | exact Below.refl _ _ | apply Below.drew | apply below_drewN | (refine Below.setCell ?_ (by first | omega | (simp; done) | (simp; omega) | (dsimp only; omega)) _) | (refine Below.alloc ?_ (by first | omega | (simp; done) | (simp; omega) | (dsimp only; omega)) _)))) (hb2.mono (by simp)), HNI2.out, by simp, by omega, rfl, rfl⟩
         rw [← hgo', ← hw3])
    clear HNI2 hgr hgz hgo' hw3 hni hb2 r0 r1 r2 z2 q0 q1 q2 z1 hb0 hz2 hmk
    obtain ⟨N, hN⟩ : ∃ N, N = nearN m O := ⟨_, rfl⟩
    rw [← hN] at HNIN hNl HLR HNI ⊢
    have h40 := mem_len40z N
    have HN := Lib.hid hN; clear hN
    go_wp2
    go_loopw [7] (fun c wr => ∃ k : Nat, k ≤ 6 ∧ c = .int .i64 k ∧ Chg go (go + 1) w3 wr ∧ Below (w.heap.size + 1) (w.alloc (.cells #[.int .i64 m.size, .slice ad m.doors.length cd, .slice ak m.keys.length ck] 27)) wr ∧ Hid (wr.ownsRow (w.heap.size + 1) 3 1 (.slice (some ⟨go, 0, none⟩) 6 6) 6 (ints (rowP (fun c => cntL (keyG m) (mem N) c - cntL (doorG m) L c) k (0))))) (fun c _ => 6 - (intOf c).toNat)
    case atStart => exact ⟨0, by omega, rfl, Chg.of_below (Below.refl _ _), HB3.out, by rw [rowP_zero]; exact HR3.out⟩
    case round =>
      obtain ⟨wo, rfl⟩ : ∃ wo : World, wo = wr := ⟨_, rfl⟩
      obtain ⟨c, hc, rfl, hch, hb, HO⟩ := hrel
      have HBSA := Lib.hid hb
      have HCSA := Lib.hid hch
      clear hch hb
      by_cases hc6 : c < 6
      · have hc6I : (c : Int) < 6 := by omega
        have HRSA : Hid (wo.ownsRow (w.heap.size + 1) 3 1 (.slice (some ⟨go, 0, none⟩) 6 6) 6 (ints (rowP (fun c => cntL (keyG m) (mem N) c - cntL (doorG m) L c) c (cntL (keyG m) ((mem N).take 0) c)))) := by
          have e : cntL (keyG m) ((mem N).take 0) c = 0 := by simp [cntL]
          rw [e]; exact HO.out
        go_wp2
        go_loopw [8] (fun n wr => ∃ i : Nat, i ≤ (mem N).length ∧ n = .int .i64 i ∧ Chg go (go + 1) w3 wr ∧ Below (w.heap.size + 1) (w.alloc (.cells #[.int .i64 m.size, .slice ad m.doors.length cd, .slice ak m.keys.length ck] 27)) wr ∧ Hid (wr.ownsRow (w.heap.size + 1) 3 1 (.slice (some ⟨go, 0, none⟩) 6 6) 6 (ints (rowP (fun c => cntL (keyG m) (mem N) c - cntL (doorG m) L c) c (cntL (keyG m) ((mem N).take i) c))))) (fun n _ => (mem N).length - (intOf n).toNat)
        case atStart => exact ⟨0, Nat.zero_le _, rfl, HCSA.out, HBSA.out, HRSA.out⟩
        case round =>
          obtain ⟨wi, rfl⟩ : ∃ wi : World, wi = wr := ⟨_, rfl⟩
          obtain ⟨i, hi, rfl, hch, hb, HR⟩ := hrel
          have HBi := Lib.hid hb
          have HCi := Lib.hid hch
          obtain ⟨q0, q1, q2, z3⟩ := box3 hb (by omega)
          by_cases hil : i < (mem N).length
          · have hiI : (i : Int) < ((mem N).length : Int) := by omega
            obtain ⟨b, off, x, hax, HX, hbs, e0⟩ := (ic_chgL HNI.out hch (by omega)).at i hil
            cases hax
            obtain ⟨xn, hxe, hxb⟩ := mem_atZ hil HX.out
            subst hxe
            have hxk : xn < m.keys.length := by have := HNIN.out xn hxb; have := HNK.out; omega
            have hxI : (xn : Int) < (m.keys.length : Int) := by omega
            have hky := key_facts OK.out hxk
            obtain ⟨b2, off2, y, hay, HY, hbs2, e1⟩ := (hk'.later (below_box HBi.out (by omega))).at xn hxk
            subst hay
            rw [HY.out] at hky
            obtain ⟨K, rfl⟩ := Int.eq_ofNat_of_zero_le hky.1
            have HG : Hid (keyG m xn = K) := by show _ = _; unfold keyG; rw [HY.out]; rfl
            have hbd : -1000 ≤ cntL (keyG m) ((mem N).take i) c ∧ cntL (keyG m) ((mem N).take i) c ≤ 1000 := by
              have h1 := cntL_bound (keyG m) ((mem N).take i) c
              have h2 := mem_len40z N
              have h3 : ((mem N).take i).length ≤ (mem N).length := by simp; omega
              omega
            have HST := Lib.hid (cntL_bit hil HX.out HG.out c)
            obtain ⟨pv, hpv⟩ : ∃ pv, pv = cntL (keyG m) ((mem N).take i) c := ⟨_, rfl⟩
            rw [← hpv] at hbd HR
            have HPV := Lib.hid hpv
            have e5 := own_intZ HR.out c hc6 (by simp)
            rw [rowP_at _ _ hc6] at e5
            have f5 : wi.frozen? ⟨go, c, none⟩ = false := HR.out.frozenAt _
            obtain ⟨yv, HYV, ey⟩ := shr_at K c
            have hyv : yv < 1099511627776 := by
              have := HYV.out; rw [Nat.shiftRight_eq_div_pow] at this; have := Nat.div_le_self K (2 ^ c); omega
            have ea := and1 hyv
            have hm2 : yv % 2 < 2 := Nat.mod_lt _ (by omega)
            have HBY := Lib.hid (bit01_y HYV.out)
            have hc0 : (0 : Int) ≤ (c : Int) := by omega
            have hc1 : (c : Int) ≤ 63 := by omega
            have hcI : (c : Int) < 6 := by omega
            have hw : IntKind.i64.wrap (pv + ((yv % 2 : Nat) : Int)) = pv + ((yv % 2 : Nat) : Int) := by rw [IntKind.wrap_i64]; omega
            clear hyv hpv hch hb hxb
            go_wp2
            refine wp_region_tail 18 (by kernel_rfl) (by kernel_rfl) ?_
            simp only [List.take_succ_cons, List.take_zero, List.drop_succ_cons, List.drop_zero]
            repeat still_step
            refine wpStill_nil ?_
            go_wp2
            go_roundw
            case rel =>
              have st := own_store1 HR.out c (pv + ((yv % 2 : Nat) : Int))
              rw [rowP_set] at st
              refine ⟨i + 1, by omega, by go_num, ?_, ?_, ?_⟩
              · exact (HCi.out.trans (Chg.of_grown st.2 (fun g' hg => by cases hg; omega))).trans (Chg.of_below ((Below.refl _ _).drew))
              · exact (HBi.out.setCell (p := ⟨go, c, none⟩) (by show _ ≤ go; omega) _).drew
              · have he : cntL (keyG m) ((mem N).take (i + 1)) c = pv + ((yv % 2 : Nat) : Int) := by
                  rw [HST.out, HPV.out, HBY.out]
                rw [he]
                exact st.1.drew
            case measure => simp [intOf]; omega
          · obtain rfl : i = (mem N).length := by omega
            clear hch hb
            have HBSB := HBi
            have HCSB := HCi
            have HRSB : Hid (wi.ownsRow (w.heap.size + 1) 3 1 (.slice (some ⟨go, 0, none⟩) 6 6) 6 (ints (rowP (fun c => cntL (keyG m) (mem N) c - cntL (doorG m) L c) c (cntL (keyG m) (mem N) c - cntL (doorG m) (L.take 0) c)))) := by
              have h := HR.out
              rw [List.take_length] at h
              have e : cntL (keyG m) (mem N) c - cntL (doorG m) (L.take 0) c = cntL (keyG m) (mem N) c := by simp [cntL]
              show World.ownsRow _ _ _ _ _ _ _
              rw [e]; exact h
            clear HR HBi HCi q0 q1 q2
            go_wp2
            go_loopw [9] (fun n wr => ∃ i : Nat, i ≤ L.length ∧ n = .int .i64 i ∧ Chg go (go + 1) w3 wr ∧ Below (w.heap.size + 1) (w.alloc (.cells #[.int .i64 m.size, .slice ad m.doors.length cd, .slice ak m.keys.length ck] 27)) wr ∧ Hid (wr.ownsRow (w.heap.size + 1) 3 1 (.slice (some ⟨go, 0, none⟩) 6 6) 6 (ints (rowP (fun c => cntL (keyG m) (mem N) c - cntL (doorG m) L c) c (cntL (keyG m) (mem N) c - cntL (doorG m) (L.take i) c))))) (fun n _ => L.length - (intOf n).toNat)
            case atStart => exact ⟨0, Nat.zero_le _, rfl, HCSB.out, HBSB.out, HRSB.out⟩
            case round =>
              obtain ⟨wi, rfl⟩ : ∃ wi : World, wi = wr := ⟨_, rfl⟩
              obtain ⟨i, hi, rfl, hch, hb, HR⟩ := hrel
              have HBi := Lib.hid hb
              have HCi := Lib.hid hch
              obtain ⟨q0, q1, q2, z3⟩ := box3 hb (by omega)
              by_cases hil : i < L.length
              · have hiI : (i : Int) < (L.length : Int) := by omega
                obtain ⟨b, off, x, hax, HX, hbs, e0⟩ := (hL.later (below_box HBi.out (by omega))).at i hil
                subst hax
                obtain ⟨xn, hxe, hxk⟩ := HLD.out i hil
                rw [HX.out] at hxe
                subst hxe
                have hxI : (xn : Int) < (m.doors.length : Int) := by omega
                obtain ⟨b2, off2, y0, y1, y, hay, HY, hbs2, e1x, e1y, e1⟩ := (hd.later (below_box HBi.out (by omega))).at xn hxk
                subst hay
                obtain ⟨f1, f2, f3, f4, f5⟩ := door_facts OK.out hxk HY.out
                obtain ⟨K, rfl⟩ := Int.eq_ofNat_of_zero_le f4
                have hky : (0 : Int) ≤ K ∧ (K : Int) < 64 := ⟨f4, f5⟩
                have HG : Hid (doorG m xn = K) := by show _ = _; unfold doorG; rw [HY.out]; rfl
                clear f1 f2 f3 f4 f5 e1x e1y
                have hbd : -1000 ≤ cntL (keyG m) (mem N) c - cntL (doorG m) (L.take i) c ∧ cntL (keyG m) (mem N) c - cntL (doorG m) (L.take i) c ≤ 1000 := by
                  have h1 := cntL_bound (keyG m) (mem N) c
                  have h2 := mem_len40z N
                  have h4 := cntL_bound (doorG m) (L.take i) c; have h6 : (L.take i).length ≤ L.length := by simp; omega
                  omega
                have HST := Lib.hid (cntL_bit hil HX.out HG.out c)
                obtain ⟨pv, hpv⟩ : ∃ pv, pv = cntL (keyG m) (mem N) c - cntL (doorG m) (L.take i) c := ⟨_, rfl⟩
                rw [← hpv] at hbd HR
                have HPV := Lib.hid hpv
                have e5 := own_intZ HR.out c hc6 (by simp)
                rw [rowP_at _ _ hc6] at e5
                have f5 : wi.frozen? ⟨go, c, none⟩ = false := HR.out.frozenAt _
                obtain ⟨yv, HYV, ey⟩ := shr_at K c
                have hyv : yv < 1099511627776 := by
                  have := HYV.out; rw [Nat.shiftRight_eq_div_pow] at this; have := Nat.div_le_self K (2 ^ c); omega
                have ea := and1 hyv
                have hm2 : yv % 2 < 2 := Nat.mod_lt _ (by omega)
                have HBY := Lib.hid (bit01_y HYV.out)
                have hc0 : (0 : Int) ≤ (c : Int) := by omega
                have hc1 : (c : Int) ≤ 63 := by omega
                have hcI : (c : Int) < 6 := by omega
                have hw : IntKind.i64.wrap (pv - ((yv % 2 : Nat) : Int)) = pv - ((yv % 2 : Nat) : Int) := by rw [IntKind.wrap_i64]; omega
                clear hyv hpv hch hb
                go_wp2
                refine wp_region_tail 19 (by kernel_rfl) (by kernel_rfl) ?_
                simp only [List.take_succ_cons, List.take_zero, List.drop_succ_cons, List.drop_zero]
                repeat still_step
                refine wpStill_nil ?_
                go_wp2
                go_roundw
                case rel =>
                  have st := own_store1 HR.out c (pv - ((yv % 2 : Nat) : Int))
                  rw [rowP_set] at st
                  refine ⟨i + 1, by omega, by go_num, ?_, ?_, ?_⟩
                  · exact (HCi.out.trans (Chg.of_grown st.2 (fun g' hg => by cases hg; omega))).trans (Chg.of_below ((Below.refl _ _).drew))
                  · exact (HBi.out.setCell (p := ⟨go, c, none⟩) (by show _ ≤ go; omega) _).drew
                  · have he : cntL (keyG m) (mem N) c - cntL (doorG m) (L.take (i + 1)) c = pv - ((yv % 2 : Nat) : Int) := by
                      rw [HST.out, HPV.out, HBY.out]; omega
                    rw [he]
                    exact st.1.drew
                case measure => simp [intOf]; omega
              · obtain rfl : i = L.length := by omega
                clear hch hb
                have HRN : Hid (wi.ownsRow (w.heap.size + 1) 3 1 (.slice (some ⟨go, 0, none⟩) 6 6) 6 (ints (rowP (fun c => cntL (keyG m) (mem N) c - cntL (doorG m) L c) (c + 1) (0)))) := by
                  have h := HR.out
                  rw [List.take_length, rowP_next (F := (fun c => cntL (keyG m) (mem N) c - cntL (doorG m) L c)) (c := c) rfl] at h
                  exact h
                go_wp2
                go_roundw
                case rel => exact ⟨c + 1, by omega, by go_num, HCi.out, HBi.out, HRN.out⟩
                case measure => simp [intOf]; omega
      · obtain rfl : c = 6 := by omega
        have HRF : Hid (wo.ownsRow (w.heap.size + 1) 3 1 (.slice (some ⟨go, 0, none⟩) 6 6) 6 (ints (leftL m (nearN m O) L))) := by
          have h := HO.out
          rw [rowP_end, ← HLR.out, HN.out] at h
          exact h
        have HBf := Lib.hid (below_box HBSA.out (by omega))
        clear HO
        go_wp2
        go_ret
        exact ⟨go, rfl, (Own.mono (Own.of HRF.out) (by omega) (Nat.le_refl _)).row, HBf.out⟩
end Go.Proofs.Ytcjcgcgcloanpaa

namespace Go.KD
open Go.RowKit
theorem ic_grownL {w w' : World} {b off : Nat} {l : List Int} {row : Option Nat} (h : IC w (some ⟨b, off, none⟩) l) (hg : w.grownBy w' row) (hne : ∀ g, row = some g → g ≠ b) : IC w' (some ⟨b, off, none⟩) l := by
  intro k hk
  obtain ⟨b', off', hb, hbs, hc⟩ := h k hk
  cases hb
  refine ⟨b, off, rfl, Nat.lt_of_lt_of_le hbs hg.size, ?_⟩
  rw [← hc]
  exact World.cell?_of_block (hg.block b hbs (fun e => hne b e.symm rfl))
theorem nextK_yes {m : Mz} {O : Nat} {L : List Int} {k : Nat} (h1 : isLock m.doors k = true) (h2 : canK m O L k = true) : nextK m O L (k + 1) = nextK m O L k ++ [(k : Int)] := by simp [nextK, List.range_succ, List.filter_append, h1, h2]
theorem nextK_no {m : Mz} {O : Nat} {L : List Int} {k : Nat} (h : (isLock m.doors k && canK m O L k) = false) : nextK m O L (k + 1) = nextK m O L k := by simp [nextK, List.range_succ, List.filter_append, h]
theorem nextK_len (m : Mz) (O : Nat) (L : List Int) (k : Nat) : (nextK m O L k).length ≤ k := by
  unfold nextK
  rw [List.length_map]
  exact Nat.le_trans (List.length_filter_le _ _) (by simp)
/-- The first j colours of a lock can be paid. -/
def payC (LF : List Int) (z j : Nat) : Bool := (List.range j).all fun c => decide (bit01 z c ≤ LF[c]!)
theorem payC_step (LF : List Int) (z j : Nat) : payC LF z (j + 1) = (payC LF z j && decide (bit01 z j ≤ LF[j]!)) := by simp [payC, List.range_succ, List.all_append]
theorem payC_can {m : Mz} {O : Nat} {L : List Int} (h : OpOk m O L) (z : Nat) : payC (leftL m (nearN m O) L) z 6 = (List.range 6).all fun c => !(z.testBit c) || decide (1 ≤ leftC m (nearN m O) L c) := by
  unfold payC
  rw [Bool.eq_iff_iff, List.all_eq_true, List.all_eq_true]
  refine forall_congr' fun c => forall_congr' fun hc => ?_
  have hc6 := List.mem_range.1 hc
  have h0 := h.left c hc6
  rw [leftL_at _ _ _ _ hc6]
  unfold bit01
  cases z.testBit c <;> simp <;> omega
theorem canK_eq {m : Mz} {O : Nat} {L : List Int} (h : OpOk m O L) {k xn yn zn : Nat} (hX : m.doors[k]! = ((xn : Int), (yn : Int), (zn : Int))) : canK m O L k = (!O.testBit k && ((nearN m O).testBit xn || (nearN m O).testBit yn) && payC (leftL m (nearN m O) L) zn 6) := by
  rw [payC_can h]
  unfold canK
  rw [hX]
  rfl
/-- The state of the walk over the doors. -/
def NX (B : Nat) (ty : TypeId) (m : Mz) (O : Nat) (L : List Int) (N gr orr gl : Nat) (W0 : World) (go co k : Nat) (W : World) : Prop :=
  W.ownsRow B ty 1 (.slice (some ⟨go, 0, none⟩) (nextK m O L k).length co) (nextK m O L k).length (ints (nextK m O L k)) ∧ Below B W0 W ∧ IC W (some ⟨gr, orr, none⟩) (mem N) ∧ IC W (some ⟨gl, 0, none⟩) (leftL m N L) ∧ go ≠ gr ∧ go ≠ gl ∧ gr < W.heap.size ∧ gl < W.heap.size ∧ B ≤ W.heap.size
theorem NX.mk0 {B : Nat} {ty : TypeId} {m : Mz} {O : Nat} {L : List Int} {N gr orr gl : Nat} {W0 : World} {go : Nat} {W : World} (h1 : W.ownsRow B ty 1 (.slice (some ⟨go, 0, none⟩) 0 0) 0 (ints [])) (h2 : Below B W0 W) (h3 : IC W (some ⟨gr, orr, none⟩) (mem N)) (h4 : IC W (some ⟨gl, 0, none⟩) (leftL m N L)) (h5 : go ≠ gr) (h6 : go ≠ gl) (h7 : gr < W.heap.size) (h8 : gl < W.heap.size) (h9 : B ≤ W.heap.size) : NX B ty m O L N gr orr gl W0 go 0 0 W := ⟨h1, h2, h3, h4, h5, h6, h7, h8, h9⟩
theorem NX.later {B : Nat} {ty : TypeId} {m : Mz} {O : Nat} {L : List Int} {N gr orr gl : Nat} {W0 : World} {go co k : Nat} {W W' : World} (h : NX B ty m O L N gr orr gl W0 go co k W) (hb : Below W.heap.size W W') : NX B ty m O L N gr orr gl W0 go co k W' := by
  obtain ⟨h1, h2, h3, h4, h5, h6, h7, h8, h9⟩ := h
  have := hb.size
  exact ⟨((Own.of h1).later hb (Nat.le_refl _)).row, h2.trans (hb.mono h9), h3.later hb, h4.later hb, h5, h6, by omega, by omega, by omega⟩
theorem NX.skip {B : Nat} {ty : TypeId} {m : Mz} {O : Nat} {L : List Int} {N gr orr gl : Nat} {W0 : World} {go co k : Nat} {W : World} (h : NX B ty m O L N gr orr gl W0 go co k W) (hs : nextK m O L (k + 1) = nextK m O L k) : NX B ty m O L N gr orr gl W0 go co (k + 1) W := by
  unfold NX; rw [hs]; exact h
theorem op_has {m : Mz} {O : Nat} {L : List Int} (h : OpOk m O L) (k : Nat) (hk : k < 40) : hasI L (k : Int) = O.testBit k := by
  rw [Bool.eq_iff_iff, hasI_iff, h.mem, in_mem]
  constructor
  · rintro ⟨i, _, hi, he⟩
    have : k = i := by omega
    rw [this]; exact hi
  · intro hb; exact ⟨k, hk, hb, rfl⟩
theorem op_at {m : Mz} {O : Nat} {L : List Int} (h : OpOk m O L) (j : Nat) (hj : j < L.length) : ∃ i : Nat, L[j]! = (i : Int) ∧ i < m.doors.length := by
  have hm : L[j]! ∈ L := by rw [getElem!_pos L j hj]; exact List.getElem_mem hj
  rw [h.mem, in_mem] at hm
  obtain ⟨i, _, hb, he⟩ := hm
  exact ⟨i, he, h.lt i hb⟩
end Go.KD
namespace Go.Proofs.Ytcjcgcgcloanpaa
open Go.RowKit Go.KD
attribute [local go_sem] later_cell later_frozen
theorem own_none {base g : Nat} {e : TypeId} (W : World) (hg : g = W.heap.size) (hb : base ≤ W.heap.size) : (W.alloc (.cells #[] e)).ownsRow base e 1 (.slice (some ⟨g, 0, none⟩) 0 0) 0 (ints []) := by
  subst hg
  exact World.ownsRow_lit (base := base) (e := e) (size := 1) W #[] 0 hb (by unfold maxLen; omega) rfl
set_option maxRecDepth 100000 in
set_option maxHeartbeats 16000000 in
theorem l7Next_c (v : Value) (m : Mz) (O : Nat) (aL : Option Addr) (cL : Nat) (L : List Int) (w : World) (hm : MzAt w v m) (ok : MzOk m) (hL : IC w aL L) (hLl : L.length ≤ 40) (hop : OpOk m O L) : Calls Try.prog 84 #[v, .slice aL L.length cL] w fun e w' => ∃ u, e = .returned u ∧ w'.ownsRow w.heap.size 3 1 u (nextL m O L).length (ints (nextL m O L)) ∧ Below w.heap.size w w' := by
  have hM := hm
  obtain ⟨⟨ad, cd, ak, ck, rfl, hd, hk'⟩, nd, nk⟩ := hM
  obtain ⟨i0, ji, jz0, jz1, jz2⟩ := info_parts infoI
  have hng : m.doors.length ≤ 30 := ok.nd
  have HLO : Hid (∀ k : Nat, k < m.doors.length → hasI L (k : Int) = O.testBit k) := fun k hk => op_has hop k (by omega)
  have HLD : Hid (∀ j, j < L.length → ∃ i : Nat, L[j]! = (i : Int) ∧ i < m.doors.length) := op_at hop
  have HNIN := Lib.hid (nearN_in ok O)
  have hNl := (nearN_in ok O).lt ok
  have HCK : Hid (∀ k xn yn zn : Nat, m.doors[k]! = ((xn : Int), (yn : Int), (zn : Int)) → canK m O L k = (!O.testBit k && ((nearN m O).testBit xn || (nearN m O).testBit yn) && payC (leftL m (nearN m O) L) zn 6)) := fun k xn yn zn => canK_eq hop
  have HBD : Hid (∀ c : Nat, c < 6 → 0 ≤ (leftL m (nearN m O) L)[c]!) := fun c hc => by rw [leftL_at _ _ _ _ hc]; exact hop.left c hc
  have OK := Lib.hid ok; clear ok hop
  obtain ⟨N, hN⟩ : ∃ N, N = nearN m O := ⟨_, rfl⟩
  rw [← hN] at HNIN hNl HCK HBD
  have h40 := mem_len40z N
  have HN := Lib.hid hN
  clear hN
  go_enter Try.func84, Try.ntmps84
  go_upto_region 1 with fail
  go_cut [5, 6, 7] (fun s5 s6 s7 wx => ∃ go gr orr cr gl : Nat, s5 = .slice (some ⟨go, 0, none⟩) 0 0 ∧ s6 = .slice (some ⟨gr, orr, none⟩) (mem N).length cr ∧ s7 = .slice (some ⟨gl, 0, none⟩) 6 6 ∧ Hid (NX (w.heap.size + 1) 3 m O L N gr orr gl (w.alloc (.cells #[.int .i64 m.size, .slice ad m.doors.length cd, .slice ak m.keys.length ck] 27)) go 0 0 wx))
  case first =>
    have hb0 : Below (w.heap.size + 1) (w.alloc (.cells #[.int .i64 m.size, .slice ad m.doors.length cd, .slice ak m.keys.length ck] 27)) (w.alloc (.cells #[.int .i64 m.size, .slice ad m.doors.length cd, .slice ak m.keys.length ck] 27)).drew := (Below.refl _ _).drew
    obtain ⟨q0, q1, q2, z1⟩ := box3 hb0 (by omega)
    go_region_held3 (fun W => W.cell? ⟨w.heap.size, 0, none⟩ = some (.int .i64 m.size) ∧ W.cell? ⟨w.heap.size, 1, none⟩ = some (.slice ad m.doors.length cd) ∧ W.cell? ⟨w.heap.size, 2, none⟩ = some (.slice ak m.keys.length ck))
      (first | exact ⟨q0, q1, q2⟩ | exact ⟨r0, r1, r2⟩ | exact ⟨s0, s1, s2⟩ | exact keep3L _ z1 q0 q1 q2 | exact keep3L _ z2 r0 r1 r2 | exact keep3L _ z3 s0 s1 s2 | (dsimp only; exact keep3L _ z1 q0 q1 q2))
      (first
        | (go_at_call 80; refine (l7Near_c _ m O _ _ L _ (hm.later (by (repeat (first | exact Below.refl _ _ | apply Below.drew | apply below_drewN | (refine Below.setCell ?_ (by first | omega | (simp; done) | (simp; omega) | (dsimp only; omega)) _) | (refine Below.alloc ?_ (by first | omega | (simp; done) | (simp; omega) | (dsimp only; omega)) _))))) OK.out (hL.later (by (repeat (first | exact Below.refl _ _ | apply Below.drew | apply below_drewN | (refine Below.setCell ?_ (by first | omega | (simp; done) | (simp; omega) | (dsimp only; omega)) _) | (refine Below.alloc ?_ (by first | omega | (simp; done) | (simp; omega) | (dsimp only; omega)) _))))) (by omega) HLO.out).mono ?_; rintro e w2 ⟨u, rfl, hlm, hb2⟩; obtain ⟨gr, orr, cr, rfl, hni, -, -, hgr, hgz⟩ := hlm; have r0 : w2.cell? ⟨w.heap.size, 0, none⟩ = some (.int .i64 m.size) := (hb2.cell (p := ⟨w.heap.size, 0, none⟩) (by first | assumption | (simp; done) | (simp; omega))).trans (by simp [go_sem]); have r1 : w2.cell? ⟨w.heap.size, 1, none⟩ = some (.slice ad m.doors.length cd) := (hb2.cell (p := ⟨w.heap.size, 1, none⟩) (by first | assumption | (simp; done) | (simp; omega))).trans (by simp [go_sem]); have r2 : w2.cell? ⟨w.heap.size, 2, none⟩ = some (.slice ak m.keys.length ck) := (hb2.cell (p := ⟨w.heap.size, 2, none⟩) (by first | assumption | (simp; done) | (simp; omega))).trans (by simp [go_sem]); have z2 : w.heap.size < w2.heap.size := Nat.lt_of_lt_of_le (by first | (simp; done) | (simp; omega)) hb2.size; have HB2 : Hid (Below (w.heap.size + 1) (w.alloc (.cells #[.int .i64 m.size, .slice ad m.doors.length cd, .slice ak m.keys.length ck] 27)) w2) := Below.trans (by (repeat (first | exact Below.refl _ _ | apply Below.drew | apply below_drewN | (refine Below.setCell ?_ (by first | omega | (simp; done) | (simp; omega) | (dsimp only; omega)) _) | (refine Below.alloc ?_ (by first | omega | (simp; done) | (simp; omega) | (dsimp only; omega)) _)))) (hb2.mono (by simp)))
        | (go_at_call 82; refine (l7Left_c _ m O _ _ L _ (hm.later (Below.trans (below_box HB2.out (by omega)) (by (repeat (first | exact Below.refl _ _ | apply Below.drew | apply below_drewN | (refine Below.setCell ?_ (by first | omega | (simp; done) | (simp; omega) | (dsimp only; omega)) _) | (refine Below.alloc ?_ (by first | omega | (simp; done) | (simp; omega) | (dsimp only; omega)) _)))))) OK.out (hL.later (Below.trans (below_box HB2.out (by omega)) (by (repeat (first | exact Below.refl _ _ | apply Below.drew | apply below_drewN | (refine Below.setCell ?_ (by first | omega | (simp; done) | (simp; omega) | (dsimp only; omega)) _) | (refine Below.alloc ?_ (by first | omega | (simp; done) | (simp; omega) | (dsimp only; omega)) _)))))) hLl HLO.out HLD.out).mono ?_; rintro e w3 ⟨gl, rfl, hol, hb3⟩; have s0 : w3.cell? ⟨w.heap.size, 0, none⟩ = some (.int .i64 m.size) := (hb3.cell (p := ⟨w.heap.size, 0, none⟩) (by first | assumption | (simp; done) | (simp; omega))).trans (by first | exact r0 | (simp [go_sem, r0]; done) | (exact (keep3L _ z2 r0 r1 r2).1)); have s1 : w3.cell? ⟨w.heap.size, 1, none⟩ = some (.slice ad m.doors.length cd) := (hb3.cell (p := ⟨w.heap.size, 1, none⟩) (by first | assumption | (simp; done) | (simp; omega))).trans (by first | exact r1 | (simp [go_sem, r1]; done) | (exact (keep3L _ z2 r0 r1 r2).2.1)); have s2 : w3.cell? ⟨w.heap.size, 2, none⟩ = some (.slice ak m.keys.length ck) := (hb3.cell (p := ⟨w.heap.size, 2, none⟩) (by first | assumption | (simp; done) | (simp; omega))).trans (by first | exact r2 | (simp [go_sem, r2]; done) | (exact (keep3L _ z2 r0 r1 r2).2.2)); have z3 : w.heap.size < w3.heap.size := Nat.lt_of_lt_of_le (by first | assumption | (simp; omega)) hb3.size))
    all_goals
      simp only [World.size_alloc, World.size_drew] at hgr
      rw [← HN.out] at hni hol ⊢
      have hz2 := hb2.size
      have hz3 := hb3.size
      have hgl := own_block_lo hol (g := gl) rfl
      have hglz := (Own.of hol).top gl rfl
      simp only [World.size_alloc, World.size_drew] at hz2 hz3 hgl
      go_wp2_with fail
      go_meet
      case rel =>
        first
          | exact ⟨_, gr, orr, cr, gl, rfl, rfl, rfl, NX.mk0 (own_none _ rfl (by omega)) (Below.alloc (HB2.out.trans (hb3.mono (by omega))) (by omega) _) ((hni.later hb3).later ((Below.refl _ _).alloc (Nat.le_refl _) _)) ((ic_of' (Own.of hol) (by simp)).later ((Below.refl _ _).alloc (Nat.le_refl _) _)) (by omega) (by omega) (by simp; omega) (by simp; omega) (by simp; omega)⟩
          | exact ⟨_, gr, orr, cr, gl, rfl, rfl, rfl, NX.mk0 (own_below (own_none w2 rfl (by omega)) hb3) ((Below.alloc HB2.out (by omega) _).trans (hb3.mono (by simp; omega))) ((hni.later ((Below.refl _ _).alloc (Nat.le_refl _) _)).later hb3) (ic_of' (Own.of hol) (by simp)) (by omega) (by omega) (by omega) (by omega) (by omega)⟩
          | exact ⟨_, gr, orr, cr, gl, rfl, rfl, rfl, NX.mk0 (own_below (own_below (own_below (own_none (w.alloc (.cells #[.int .i64 m.size, .slice ad m.doors.length cd, .slice ak m.keys.length ck] 27)) (by simp) (by simp)) ((Below.refl _ _).drew)) hb2) hb3) (HB2.out.trans (hb3.mono (by omega))) (hni.later hb3) (ic_of' (Own.of hol) (by simp)) (by omega) (by omega) (by omega) (by omega) (by omega)⟩
  case rest =>
    obtain ⟨go, gr, orr, cr, gl, rfl, rfl, rfl, HQ⟩ := hcut
    go_wp2
    go_loopw [5, 8] (fun u n wr => ∃ go co k : Nat, n = .int .i64 k ∧ k ≤ m.doors.length ∧ u = .slice (some ⟨go, 0, none⟩) (nextK m O L k).length co ∧ Hid (NX (w.heap.size + 1) 3 m O L N gr orr gl (w.alloc (.cells #[.int .i64 m.size, .slice ad m.doors.length cd, .slice ak m.keys.length ck] 27)) go co k wr)) (fun _ n _ => m.doors.length - (intOf n).toNat)
    case atStart => exact ⟨go, 0, 0, rfl, Nat.zero_le _, rfl, HQ⟩
    case round =>
      clear HQ
      obtain ⟨wi, rfl⟩ : ∃ wi : World, wi = wr := ⟨_, rfl⟩
      obtain ⟨go, co, k, rfl, hk, rfl, HNX⟩ := hrel
      have HBi : Hid (Below (w.heap.size + 1) (w.alloc (.cells #[.int .i64 m.size, .slice ad m.doors.length cd, .slice ak m.keys.length ck] 27)) wi) := HNX.out.2.1
      obtain ⟨q0, q1, q2, z1⟩ := box3 HBi.out (by omega)
      have hzw : w.heap.size + 1 ≤ wi.heap.size := HNX.out.2.2.2.2.2.2.2.2
      have hnl := nextK_len m O L k
      have HBw := Lib.hid (below_box HBi.out (by omega))
      by_cases hlt : k < m.doors.length
      · have hkI : (k : Int) < (m.doors.length : Int) := by omega
        have hkI63 : (k : Int) < 64 := by omega
        obtain ⟨b, off, x0, y0, z0, hadx, HX, hbs, e0, e1, e2⟩ := (hd.later HBw.out).at k hlt
        subst hadx
        obtain ⟨f1, f2, f3, f4, f5⟩ := door_facts OK.out hlt HX.out
        obtain ⟨xn, rfl⟩ := Int.eq_ofNat_of_zero_le f1
        obtain ⟨yn, rfl⟩ := Int.eq_ofNat_of_zero_le (show 0 ≤ y0 by omega)
        obtain ⟨zn, rfl⟩ := Int.eq_ofNat_of_zero_le f4
        have hs2 : m.size ≤ 12 := OK.out.s2
        have HLK : Hid (isLock m.doors k = decide (zn ≠ 0)) := by show _ = _; unfold isLock; rw [HX.out]; simp
        have HCN := Lib.hid (HCK.out k xn yn zn HX.out)
        have HHK := Lib.hid (HLO.out k hlt)
        have HHX : Hid (hasI (mem N) (xn : Int) = N.testBit xn) := hasI_bitZ hNl
        have HHY : Hid (hasI (mem N) (yn : Int) = N.testBit yn) := hasI_bitZ hNl
        obtain ⟨pa, hpa⟩ : ∃ pa, pa = N.testBit xn := ⟨_, rfl⟩
        obtain ⟨pb, hpb⟩ : ∃ pb, pb = N.testBit yn := ⟨_, rfl⟩
        obtain ⟨ob, hob⟩ : ∃ ob, ob = O.testBit k := ⟨_, rfl⟩
        rw [← hpa, ← hpb, ← hob] at HCN
        rw [← hob] at HHK
        rw [← hpa] at HHX
        rw [← hpb] at HHY
        clear hpa hpb hob f1 f2 f3
        have HIN : Hid (∀ W, Below wi.heap.size wi W → IC W (some ⟨gr, orr, none⟩) (mem N)) := fun W hW => HNX.out.2.2.1.later hW
        have HLw := Lib.hid (hL.later HBw.out)
        by_cases hz0 : zn = 0
        case pos =>
          subst hz0
          have HSK : Hid (nextK m O L (k + 1) = nextK m O L k) := nextK_no (by rw [HLK.out]; simp)
          have HNS : Hid (∀ W, Below wi.heap.size wi W → NX (w.heap.size + 1) 3 m O L N gr orr gl (w.alloc (.cells #[.int .i64 m.size, .slice (some ⟨b, off, none⟩) m.doors.length cd, .slice ak m.keys.length ck] 27)) go co (k + 1) W) := fun W hW => (HNX.out.later hW).skip HSK.out
          go_wp2
          go_roundw
          case rel => exact ⟨go, co, k + 1, by go_num, by omega, by rw [HSK.out], HNS.out _ (by (repeat (first | exact Below.refl _ _ | apply Below.drew | apply below_drewN | (refine Below.setCell ?_ (by first | omega | (simp; done) | (simp; omega) | (dsimp only; omega)) _) | (refine Below.alloc ?_ (by first | omega | (simp; done) | (simp; omega) | (dsimp only; omega)) _))))⟩
          case measure => simp [intOf]; omega
        case neg =>
          have hzI : ((zn : Int) == 0) = false := by simp; omega
          have hzI2 : (zn : Int) ≠ 0 := by omega
          have HZL : Hid (isLock m.doors k = true) := by show _ = _; rw [HLK.out]; simp [hz0]
          have HZ := Lib.hid hz0
          clear hz0
          cases ob
          case true =>
            have HSK : Hid (nextK m O L (k + 1) = nextK m O L k) := nextK_no (by rw [HCN.out]; simp)
            have HNS : Hid (∀ W, Below wi.heap.size wi W → NX (w.heap.size + 1) 3 m O L N gr orr gl (w.alloc (.cells #[.int .i64 m.size, .slice (some ⟨b, off, none⟩) m.doors.length cd, .slice ak m.keys.length ck] 27)) go co (k + 1) W) := fun W hW => (HNX.out.later hW).skip HSK.out
            go_wp2_with fail
            refine (l1Has_c _ _ _ L _ _ rfl (HLw.out.later (by (repeat (first | exact Below.refl _ _ | apply Below.drew | apply below_drewN | (refine Below.setCell ?_ (by first | omega | (simp; done) | (simp; omega) | (dsimp only; omega)) _) | (refine Below.alloc ?_ (by first | omega | (simp; done) | (simp; omega) | (dsimp only; omega)) _))))) (by omega)).mono ?_
            rintro e w4 ⟨rfl, rfl⟩
            rw [HHK.out]
            go_wp2_with fail
            go_roundw
            case rel => exact ⟨go, co, k + 1, by go_num, by omega, by rw [HSK.out], HNS.out _ (by (repeat (first | exact Below.refl _ _ | apply Below.drew | apply below_drewN | (refine Below.setCell ?_ (by first | omega | (simp; done) | (simp; omega) | (dsimp only; omega)) _) | (refine Below.alloc ?_ (by first | omega | (simp; done) | (simp; omega) | (dsimp only; omega)) _))))⟩
            case measure => simp [intOf]; omega
          case false =>
            cases pa
            case false =>
              cases pb
              case false =>
                have HSK : Hid (nextK m O L (k + 1) = nextK m O L k) := nextK_no (by rw [HCN.out]; simp)
                have HNS : Hid (∀ W, Below wi.heap.size wi W → NX (w.heap.size + 1) 3 m O L N gr orr gl (w.alloc (.cells #[.int .i64 m.size, .slice (some ⟨b, off, none⟩) m.doors.length cd, .slice ak m.keys.length ck] 27)) go co (k + 1) W) := fun W hW => (HNX.out.later hW).skip HSK.out
                go_wp2_with fail
                refine (l1Has_c _ _ _ L _ _ rfl (HLw.out.later (by (repeat (first | exact Below.refl _ _ | apply Below.drew | apply below_drewN | (refine Below.setCell ?_ (by first | omega | (simp; done) | (simp; omega) | (dsimp only; omega)) _) | (refine Below.alloc ?_ (by first | omega | (simp; done) | (simp; omega) | (dsimp only; omega)) _))))) (by omega)).mono ?_
                rintro e w4 ⟨rfl, rfl⟩
                rw [HHK.out]
                go_wp2_with fail
                refine (l1Has_c _ _ _ (mem N) _ _ rfl (HIN.out _ (by (repeat (first | exact Below.refl _ _ | apply Below.drew | apply below_drewN | (refine Below.setCell ?_ (by first | omega | (simp; done) | (simp; omega) | (dsimp only; omega)) _) | (refine Below.alloc ?_ (by first | omega | (simp; done) | (simp; omega) | (dsimp only; omega)) _))))) (by omega)).mono ?_
                rintro e w4 ⟨rfl, rfl⟩
                rw [HHX.out]
                go_wp2_with fail
                refine (l1Has_c _ _ _ (mem N) _ _ rfl (HIN.out _ (by (repeat (first | exact Below.refl _ _ | apply Below.drew | apply below_drewN | (refine Below.setCell ?_ (by first | omega | (simp; done) | (simp; omega) | (dsimp only; omega)) _) | (refine Below.alloc ?_ (by first | omega | (simp; done) | (simp; omega) | (dsimp only; omega)) _))))) (by omega)).mono ?_
                rintro e w4 ⟨rfl, rfl⟩
                rw [HHY.out]
                go_wp2_with fail
                go_roundw
                case rel => exact ⟨go, co, k + 1, by go_num, by omega, by rw [HSK.out], HNS.out _ (by (repeat (first | exact Below.refl _ _ | apply Below.drew | apply below_drewN | (refine Below.setCell ?_ (by first | omega | (simp; done) | (simp; omega) | (dsimp only; omega)) _) | (refine Below.alloc ?_ (by first | omega | (simp; done) | (simp; omega) | (dsimp only; omega)) _))))⟩
                case measure => simp [intOf]; omega
              case true =>
                have HCP : Hid (canK m O L k = payC (leftL m N L) zn 6) := by show _ = _; rw [HCN.out]; simp
                go_wp2_with fail
                refine (l1Has_c _ _ _ L _ _ rfl (HLw.out.later (by (repeat (first | exact Below.refl _ _ | apply Below.drew | apply below_drewN | (refine Below.setCell ?_ (by first | omega | (simp; done) | (simp; omega) | (dsimp only; omega)) _) | (refine Below.alloc ?_ (by first | omega | (simp; done) | (simp; omega) | (dsimp only; omega)) _))))) (by omega)).mono ?_
                rintro e w4 ⟨rfl, rfl⟩
                rw [HHK.out]
                go_wp2_with fail
                refine (l1Has_c _ _ _ (mem N) _ _ rfl (HIN.out _ (by (repeat (first | exact Below.refl _ _ | apply Below.drew | apply below_drewN | (refine Below.setCell ?_ (by first | omega | (simp; done) | (simp; omega) | (dsimp only; omega)) _) | (refine Below.alloc ?_ (by first | omega | (simp; done) | (simp; omega) | (dsimp only; omega)) _))))) (by omega)).mono ?_
                rintro e w4 ⟨rfl, rfl⟩
                rw [HHX.out]
                go_wp2_with fail
                refine (l1Has_c _ _ _ (mem N) _ _ rfl (HIN.out _ (by (repeat (first | exact Below.refl _ _ | apply Below.drew | apply below_drewN | (refine Below.setCell ?_ (by first | omega | (simp; done) | (simp; omega) | (dsimp only; omega)) _) | (refine Below.alloc ?_ (by first | omega | (simp; done) | (simp; omega) | (dsimp only; omega)) _))))) (by omega)).mono ?_
                rintro e w4 ⟨rfl, rfl⟩
                rw [HHY.out]
                go_wp2_with fail
                go_loopw [10, 11] (fun p c wr => ∃ j : Nat, j ≤ 6 ∧ c = .int .i64 j ∧ p = .bool (payC (leftL m N L) zn j) ∧ Below (wi.heap.size + 1) (wi.alloc (.cells #[.int .i64 xn, .int .i64 yn, .int .i64 zn] 39)) wr) (fun _ c _ => 6 - (intOf c).toNat)
                case atStart => exact ⟨0, by omega, rfl, by simp [payC], Below.refl _ _⟩
                case round =>
                  obtain ⟨wz, rfl⟩ : ∃ wz : World, wz = wr := ⟨_, rfl⟩
                  obtain ⟨j, hj, rfl, rfl, hbz⟩ := hrel
                  have HBZ : Hid (Below wi.heap.size wi wz) := below_box hbz (by omega)
                  have HNZ := Lib.hid (HNX.out.later HBZ.out)
                  obtain ⟨t0, t1, t2, z4⟩ := box3 hbz (by omega)
                  have HBz := Lib.hid hbz
                  clear q0 q1 q2
                  obtain ⟨q0, q1, q2, z5⟩ := box3 HNZ.out.2.1 (by omega)
                  clear hbz
                  by_cases hj6 : j < 6
                  · have hjI : (j : Int) < 6 := by omega
                    have hj0 : (0 : Int) ≤ (j : Int) := by omega
                    have hj63 : (j : Int) ≤ 63 := by omega
                    obtain ⟨b3, off3, lv, hax, HLV, hbs3, e5⟩ := HNZ.out.2.2.2.1.at j (by simpa using hj6)
                    cases hax
                    rw [Nat.zero_add] at e5
                    have hl0 := HBD.out j hj6
                    rw [HLV.out] at hl0
                    have HPS := Lib.hid (payC_step (leftL m N L) zn j)
                    rw [HLV.out] at HPS
                    obtain ⟨yv, HYV, ey⟩ := shr_at zn j
                    have hyv : yv < 1099511627776 := by
                      have := HYV.out; rw [Nat.shiftRight_eq_div_pow] at this; have := Nat.div_le_self zn (2 ^ j); omega
                    have ea := and1 hyv
                    have HBY := Lib.hid (bit01_y HYV.out)
                    rw [← HBY.out] at HPS
                    clear hyv
                    obtain ⟨pj, hpj⟩ : ∃ pj, pj = payC (leftL m N L) zn j := ⟨_, rfl⟩
                    rw [← hpj] at HPS ⊢
                    clear hpj
                    cases pj
                    case false =>
                      go_wp2
                      go_quiet (fail)
                      go_wp2
                      go_roundw
                      case rel => exact ⟨j + 1, by omega, by go_num, by rw [HPS.out]; rfl, below_drewN HBz.out _⟩
                      case measure => simp [intOf]; omega
                    case true =>
                      cases hq : decide (((yv % 2 : Nat) : Int) ≤ lv)
                      case false =>
                        have HQF := Lib.hid hq
                        have hq2 : ¬ (((yv % 2 : Nat) : Int) ≤ lv) := of_decide_eq_false hq
                        clear hq
                        go_wp2
                        go_quiet (fail)
                        go_wp2
                        go_roundw
                        case rel => exact ⟨j + 1, by omega, by go_num, by rw [HPS.out, Bool.true_and]; rfl, below_drewN HBz.out _⟩
                        case measure => simp [intOf]; omega
                      case true =>
                        have HQT := Lib.hid hq
                        have hq2 : ((yv % 2 : Nat) : Int) ≤ lv := of_decide_eq_true hq
                        clear hq
                        go_wp2
                        go_quiet (fail)
                        go_wp2
                        go_roundw
                        case rel => exact ⟨j + 1, by omega, by go_num, by rw [HPS.out, Bool.true_and]; rfl, below_drewN HBz.out _⟩
                        case measure => simp [intOf]; omega
                  · obtain rfl : j = 6 := by omega
                    obtain ⟨pj, hpj⟩ : ∃ pj, pj = payC (leftL m N L) zn 6 := ⟨_, rfl⟩
                    rw [← hpj] at HCP ⊢
                    clear hpj
                    cases pj
                    case false =>
                      have HSK : Hid (nextK m O L (k + 1) = nextK m O L k) := nextK_no (by rw [HCP.out]; simp)
                      go_wp2
                      go_roundw
                      case rel => exact ⟨go, co, k + 1, by go_num, by omega, by rw [HSK.out], HNZ.out.skip HSK.out⟩
                      case measure => simp [intOf]; omega
                    case true =>
                      have HYS : Hid (nextK m O L (k + 1) = nextK m O L k ++ [(k : Int)]) := nextK_yes HZL.out HCP.out
                      obtain ⟨hoz, hbz, hiz, hlz, hne1, hne2, hgrz, hglz, hBz⟩ := HNZ.out
                      have HOZ := Lib.hid hoz
                      have HBZ2 := Lib.hid hbz
                      have HIZ := Lib.hid hiz
                      have HLZ := Lib.hid hlz
                      clear hoz hbz hiz hlz
                      go_wp2_with (at_builtin; refine wpList_append_lies _ rfl _ _ 25 rfl (w.heap.size + 1) 3 i0 (.int .i64 0) 1 8 Try.underlying25 ji jz0 jz1 jz2 rfl (by decide) (.slice (some ⟨go, 0, none⟩) (nextK m O L k).length co) _ _ rfl (HOZ.out.alloc _) ⟨wz.heap.size, 0, none⟩ 1 1 [.int .i64 k] rfl rfl ?_ ?_ (by omega) ?_ ?_ ?_ (wz.heap.size + 1) ?_ ?_; (exact cell_one_new _ _ _); (simp [Value.oneCell']); (unfold maxLen; omega); omega; (simp; omega); (simp); intro g5 c5 w5 hown5 hgrow5 hat5 hlt5)
                      have hsz5 := hgrow5.size
                      simp only [World.size_alloc] at hsz5
                      have hg5 : g5 ≠ gr ∧ g5 ≠ gl := by
                        rcases hat5 with h | h
                        · have : go = g5 := by simpa [Value.ownBlock] using h
                          rw [← this]; exact ⟨hne1, hne2⟩
                        · omega
                      have HN5 : Hid (NX (w.heap.size + 1) 3 m O L N gr orr gl (w.alloc (.cells #[.int .i64 m.size, .slice (some ⟨b, off, none⟩) m.doors.length cd, .slice ak m.keys.length ck] 27)) g5 c5 (k + 1) w5) := by
                        have hrow : ∀ g, Value.ownBlock (.slice (some ⟨go, 0, none⟩) (nextK m O L k).length co) = some g → go = g := fun g h => by simpa [Value.ownBlock] using h
                        refine ⟨?_, (HBZ2.out.alloc hBz _).grown hgrow5 (by simp; omega) (fun g hg => own_block_lo HOZ.out hg), ic_grownL (HIZ.out.later ((Below.refl _ _).alloc (Nat.le_refl _) _)) hgrow5 (fun g h => by rw [← hrow g h]; exact hne1), ic_grownL (HLZ.out.later ((Below.refl _ _).alloc (Nat.le_refl _) _)) hgrow5 (fun g h => by rw [← hrow g h]; exact hne2), hg5.1, hg5.2, by omega, by omega, by omega⟩
                        rw [HYS.out, ints_snoc, List.length_append]
                        exact hown5
                      clear hown5 hgrow5 hat5
                      go_wp2
                      go_roundw
                      case rel => exact ⟨g5, c5, k + 1, by go_num, by omega, by rw [HYS.out]; simp, HN5.out⟩
                      case measure => simp [intOf]; omega
            case true =>
              have HCP : Hid (canK m O L k = payC (leftL m N L) zn 6) := by show _ = _; rw [HCN.out]; simp
              go_wp2_with fail
              refine (l1Has_c _ _ _ L _ _ rfl (HLw.out.later (by (repeat (first | exact Below.refl _ _ | apply Below.drew | apply below_drewN | (refine Below.setCell ?_ (by first | omega | (simp; done) | (simp; omega) | (dsimp only; omega)) _) | (refine Below.alloc ?_ (by first | omega | (simp; done) | (simp; omega) | (dsimp only; omega)) _))))) (by omega)).mono ?_
              rintro e w4 ⟨rfl, rfl⟩
              rw [HHK.out]
              go_wp2_with fail
              refine (l1Has_c _ _ _ (mem N) _ _ rfl (HIN.out _ (by (repeat (first | exact Below.refl _ _ | apply Below.drew | apply below_drewN | (refine Below.setCell ?_ (by first | omega | (simp; done) | (simp; omega) | (dsimp only; omega)) _) | (refine Below.alloc ?_ (by first | omega | (simp; done) | (simp; omega) | (dsimp only; omega)) _))))) (by omega)).mono ?_
              rintro e w4 ⟨rfl, rfl⟩
              rw [HHX.out]
              go_wp2_with fail
              go_loopw [10, 11] (fun p c wr => ∃ j : Nat, j ≤ 6 ∧ c = .int .i64 j ∧ p = .bool (payC (leftL m N L) zn j) ∧ Below (wi.heap.size + 1) (wi.alloc (.cells #[.int .i64 xn, .int .i64 yn, .int .i64 zn] 39)) wr) (fun _ c _ => 6 - (intOf c).toNat)
              case atStart => exact ⟨0, by omega, rfl, by simp [payC], Below.refl _ _⟩
              case round =>
                obtain ⟨wz, rfl⟩ : ∃ wz : World, wz = wr := ⟨_, rfl⟩
                obtain ⟨j, hj, rfl, rfl, hbz⟩ := hrel
                have HBZ : Hid (Below wi.heap.size wi wz) := below_box hbz (by omega)
                have HNZ := Lib.hid (HNX.out.later HBZ.out)
                obtain ⟨t0, t1, t2, z4⟩ := box3 hbz (by omega)
                have HBz := Lib.hid hbz
                clear q0 q1 q2
                obtain ⟨q0, q1, q2, z5⟩ := box3 HNZ.out.2.1 (by omega)
                clear hbz
                by_cases hj6 : j < 6
                · have hjI : (j : Int) < 6 := by omega
                  have hj0 : (0 : Int) ≤ (j : Int) := by omega
                  have hj63 : (j : Int) ≤ 63 := by omega
                  obtain ⟨b3, off3, lv, hax, HLV, hbs3, e5⟩ := HNZ.out.2.2.2.1.at j (by simpa using hj6)
                  cases hax
                  rw [Nat.zero_add] at e5
                  have hl0 := HBD.out j hj6
                  rw [HLV.out] at hl0
                  have HPS := Lib.hid (payC_step (leftL m N L) zn j)
                  rw [HLV.out] at HPS
                  obtain ⟨yv, HYV, ey⟩ := shr_at zn j
                  have hyv : yv < 1099511627776 := by
                    have := HYV.out; rw [Nat.shiftRight_eq_div_pow] at this; have := Nat.div_le_self zn (2 ^ j); omega
                  have ea := and1 hyv
                  have HBY := Lib.hid (bit01_y HYV.out)
                  rw [← HBY.out] at HPS
                  clear hyv
                  obtain ⟨pj, hpj⟩ : ∃ pj, pj = payC (leftL m N L) zn j := ⟨_, rfl⟩
                  rw [← hpj] at HPS ⊢
                  clear hpj
                  cases pj
                  case false =>
                    go_wp2
                    go_quiet (fail)
                    go_wp2
                    go_roundw
                    case rel => exact ⟨j + 1, by omega, by go_num, by rw [HPS.out]; rfl, below_drewN HBz.out _⟩
                    case measure => simp [intOf]; omega
                  case true =>
                    cases hq : decide (((yv % 2 : Nat) : Int) ≤ lv)
                    case false =>
                      have HQF := Lib.hid hq
                      have hq2 : ¬ (((yv % 2 : Nat) : Int) ≤ lv) := of_decide_eq_false hq
                      clear hq
                      go_wp2
                      go_quiet (fail)
                      go_wp2
                      go_roundw
                      case rel => exact ⟨j + 1, by omega, by go_num, by rw [HPS.out, Bool.true_and]; rfl, below_drewN HBz.out _⟩
                      case measure => simp [intOf]; omega
                    case true =>
                      have HQT := Lib.hid hq
                      have hq2 : ((yv % 2 : Nat) : Int) ≤ lv := of_decide_eq_true hq
                      clear hq
                      go_wp2
                      go_quiet (fail)
                      go_wp2
                      go_roundw
                      case rel => exact ⟨j + 1, by omega, by go_num, by rw [HPS.out, Bool.true_and]; rfl, below_drewN HBz.out _⟩
                      case measure => simp [intOf]; omega
                · obtain rfl : j = 6 := by omega
                  obtain ⟨pj, hpj⟩ : ∃ pj, pj = payC (leftL m N L) zn 6 := ⟨_, rfl⟩
                  rw [← hpj] at HCP ⊢
                  clear hpj
                  cases pj
                  case false =>
                    have HSK : Hid (nextK m O L (k + 1) = nextK m O L k) := nextK_no (by rw [HCP.out]; simp)
                    go_wp2
                    go_roundw
                    case rel => exact ⟨go, co, k + 1, by go_num, by omega, by rw [HSK.out], HNZ.out.skip HSK.out⟩
                    case measure => simp [intOf]; omega
                  case true =>
                    have HYS : Hid (nextK m O L (k + 1) = nextK m O L k ++ [(k : Int)]) := nextK_yes HZL.out HCP.out
                    obtain ⟨hoz, hbz, hiz, hlz, hne1, hne2, hgrz, hglz, hBz⟩ := HNZ.out
                    have HOZ := Lib.hid hoz
                    have HBZ2 := Lib.hid hbz
                    have HIZ := Lib.hid hiz
                    have HLZ := Lib.hid hlz
                    clear hoz hbz hiz hlz
                    go_wp2_with (at_builtin; refine wpList_append_lies _ rfl _ _ 25 rfl (w.heap.size + 1) 3 i0 (.int .i64 0) 1 8 Try.underlying25 ji jz0 jz1 jz2 rfl (by decide) (.slice (some ⟨go, 0, none⟩) (nextK m O L k).length co) _ _ rfl (HOZ.out.alloc _) ⟨wz.heap.size, 0, none⟩ 1 1 [.int .i64 k] rfl rfl ?_ ?_ (by omega) ?_ ?_ ?_ (wz.heap.size + 1) ?_ ?_; (exact cell_one_new _ _ _); (simp [Value.oneCell']); (unfold maxLen; omega); omega; (simp; omega); (simp); intro g5 c5 w5 hown5 hgrow5 hat5 hlt5)
                    have hsz5 := hgrow5.size
                    simp only [World.size_alloc] at hsz5
                    have hg5 : g5 ≠ gr ∧ g5 ≠ gl := by
                      rcases hat5 with h | h
                      · have : go = g5 := by simpa [Value.ownBlock] using h
                        rw [← this]; exact ⟨hne1, hne2⟩
                      · omega
                    have HN5 : Hid (NX (w.heap.size + 1) 3 m O L N gr orr gl (w.alloc (.cells #[.int .i64 m.size, .slice (some ⟨b, off, none⟩) m.doors.length cd, .slice ak m.keys.length ck] 27)) g5 c5 (k + 1) w5) := by
                      have hrow : ∀ g, Value.ownBlock (.slice (some ⟨go, 0, none⟩) (nextK m O L k).length co) = some g → go = g := fun g h => by simpa [Value.ownBlock] using h
                      refine ⟨?_, (HBZ2.out.alloc hBz _).grown hgrow5 (by simp; omega) (fun g hg => own_block_lo HOZ.out hg), ic_grownL (HIZ.out.later ((Below.refl _ _).alloc (Nat.le_refl _) _)) hgrow5 (fun g h => by rw [← hrow g h]; exact hne1), ic_grownL (HLZ.out.later ((Below.refl _ _).alloc (Nat.le_refl _) _)) hgrow5 (fun g h => by rw [← hrow g h]; exact hne2), hg5.1, hg5.2, by omega, by omega, by omega⟩
                      rw [HYS.out, ints_snoc, List.length_append]
                      exact hown5
                    clear hown5 hgrow5 hat5
                    go_wp2
                    go_roundw
                    case rel => exact ⟨g5, c5, k + 1, by go_num, by omega, by rw [HYS.out]; simp, HN5.out⟩
                    case measure => simp [intOf]; omega
      · obtain rfl : k = m.doors.length := by omega
        have HRF : Hid (wi.ownsRow (w.heap.size + 1) 3 1 (.slice (some ⟨go, 0, none⟩) (nextK m O L m.doors.length).length co) (nextL m O L).length (ints (nextL m O L))) := HNX.out.1
        go_wp2
        go_ret
        exact ⟨_, rfl, (Own.mono (Own.of HRF.out) (by omega) (Nat.le_refl _)).row, HBw.out⟩
end Go.Proofs.Ytcjcgcgcloanpaa

namespace Go.KD
open Go.RowKit
def c2p (l : List (Nat × Nat)) : List Value := l.flatMap fun d => [.int .i64 (d.1 : Int), .int .i64 (d.2 : Int)]
def rsL (m : Mz) (s k : Nat) : List (Nat × Nat) := (List.range k).map fun i => (gK m s i, reachN m 0 (gK m s i))
theorem rsL_snoc (m : Mz) (s k : Nat) : rsL m s (k + 1) = rsL m s k ++ [(gK m s k, reachN m 0 (gK m s k))] := by simp [rsL, List.range_succ]
@[simp] theorem rsL_len (m : Mz) (s k : Nat) : (rsL m s k).length = k := by simp [rsL]
theorem c2p_snoc (l : List (Nat × Nat)) (a b : Nat) : c2p (l ++ [(a, b)]) = c2p l ++ [.int .i64 (a : Int), .int .i64 (b : Int)] := by simp [c2p]
theorem length_c2p (l : List (Nat × Nat)) : (c2p l).length = l.length * 2 := by
  induction l with
  | nil => rfl
  | cons d l ih => simp only [c2p, List.flatMap_cons, List.length_append, List.length_cons] at *; simp at *; omega
theorem get_c2p (m : Mz) (s k : Nat) : (c2p (rsL m s (k + 1)))[k * 2]? = some (.int .i64 (gK m s k : Int)) ∧ (c2p (rsL m s (k + 1)))[k * 2 + 1]? = some (.int .i64 (reachN m 0 (gK m s k) : Int)) := by
  have hl : (c2p (rsL m s k)).length = k * 2 := by rw [length_c2p, rsL_len]
  rw [rsL_snoc, c2p_snoc, List.getElem?_append_right (by omega), List.getElem?_append_right (by omega), hl]
  simp
theorem two_new (w : World) (x y : Value) (t : TypeId) (j : Nat) (u : Value) (h : [x, y][j]? = some u) : (w.alloc (.cells #[x, y] t)).cell? ((⟨w.heap.size, 0, none⟩ : Addr).add j) = some u := by
  rw [add_at rfl, Nat.zero_add]
  have e : (w.alloc (.cells #[x, y] t)).cell? ⟨w.heap.size, j, none⟩ = _ := World.cell?_alloc_new w _ t j
  rw [e, ← h]
  simp
end Go.KD
namespace Go.Proofs.Ytcjcgcgcloanpaa
open Go.RowKit Go.KD
attribute [local go_sem] later_cell later_frozen
theorem infoR : (Try.prog.info? 68).map (fun i => (i.zero, i.size, i.bytes)) = some (some (.agg #[.int .i64 0, .int .i64 0]), 2, 16) := by kernel_rfl
set_option maxRecDepth 100000 in
set_option maxHeartbeats 8000000 in
theorem rounds_c (v : Value) (m : Mz) (s : Nat) (w : World) (hm : MzAt w v m) (ok : MzOk m) (hs : s < 64) : Calls Try.prog 154 #[v, .int .i64 s] w fun e w' =>
    ∃ u, e = .returned u ∧ ∃ k, w'.ownsRow w.heap.size 68 2 u (k + 1) (c2p (rsL m s (k + 1))) ∧ k ≤ gK m s k ∧ gainN m (gK m s k) = gK m s k ∧ (∀ j, j < k → gainN m (gK m s j) ≠ gK m s j) ∧ Below w.heap.size w w' := by
  have hM := hm
  obtain ⟨⟨ad, cd, ak, ck, rfl, hd, hk'⟩, nd, nk⟩ := hM
  obtain ⟨i0, ji, jz0, jz1, jz2⟩ := info_parts infoR
  have HGL := Lib.hid (gK_lt ok hs)
  have HKL := Lib.hid (keysL_lt ok)
  have HS1 : Hid (((0 : Nat) : Int) < m.size) := by have := ok.s1; show _ < _; omega
  have HRI : Hid (∀ t, InM m (reachN m 0 t)) := fun t => reachN_in ok t HS1.out
  have hnk : (m.keys.length : Int) = m.size := ok.nk
  have HNK := Lib.hid hnk; clear hnk
  have OK := Lib.hid ok; clear ok
  go_enter Try.func154, Try.ntmps154
  go_wp2
  go_loopw [5, 6] (fun u t wr => ∃ k : Nat, t = .int .i64 (gK m s k) ∧ k ≤ gK m s k ∧ Below (w.heap.size + 1) (w.alloc (.cells #[.int .i64 m.size, .slice ad m.doors.length cd, .slice ak m.keys.length ck] 27)) wr ∧ Hid (wr.ownsRow (w.heap.size + 1) 68 2 u k (c2p (rsL m s k))) ∧ Hid (∀ j, j < k → gainN m (gK m s j) ≠ gK m s j)) (fun _ t _ => 64 - (intOf t).toNat)
  case atStart => exact ⟨0, rfl, Nat.zero_le _, (Below.refl _ _).alloc (by simp) _, by have := World.ownsRow_lit (base := w.heap.size + 1) (e := 68) (size := 2) (w.alloc (.cells #[.int .i64 m.size, .slice ad m.doors.length cd, .slice ak m.keys.length ck] 27)) #[] 0 (by simp) (by unfold maxLen; omega) rfl; simp at this; exact this, fun j hj => absurd hj (Nat.not_lt_zero j)⟩
  case round =>
    obtain ⟨wo, rfl⟩ : ∃ wo : World, wo = wr := ⟨_, rfl⟩
    obtain ⟨k, rfl, hk, hb, HO, HJ⟩ := hrel
    have HBo := Lib.hid hb
    have HB := Lib.hid (below_box hb (by omega))
    obtain ⟨q0, q1, q2, z1⟩ := box3 hb (by omega)
    clear hb
    have hg := HGL.out k
    have hg1 := HGL.out (k + 1)
    have HN : Hid (gK m s (k + 1) = gK m s k ||| keysL m (mem (reachN m 0 (gK m s k)))) := rfl
    have HSN : Hid (rsL m s (k + 1) = rsL m s k ++ [(gK m s k, reachN m 0 (gK m s k))]) := rsL_snoc m s k
    have HFX : Hid (gainN m (gK m s k) = gK m s (k + 1)) := rfl
    obtain ⟨sN, hsN⟩ : ∃ sN, sN = gK m s k := ⟨_, rfl⟩
    obtain ⟨tN, htN⟩ : ∃ tN, tN = gK m s (k + 1) := ⟨_, rfl⟩
    rw [← hsN] at hg hk HN HSN HFX ⊢
    rw [← htN] at hg1 HN HFX
    have HSE := Lib.hid hsN
    have HTE := Lib.hid htN
    clear hsN htN
    have hri := HRI.out sN
    have hrl := hri.lt OK.out
    obtain ⟨X, hX⟩ : ∃ X, X = reachN m 0 sN := ⟨_, rfl⟩
    rw [← hX] at hri hrl HN HSN
    have HX := Lib.hid hX; clear hX
    have HIN := Lib.hid hri; clear hri
    obtain ⟨aM, cM, rfl⟩ := own_slice HO.out
    go_wp2_with fail
    refine (reach_c _ m 0 sN _ (hm.later HB.out) OK.out HS1.out).mono ?_
    rintro e w2 ⟨rfl, hb2⟩
    rw [← HX.out]
    have HB2 : Hid (Below (w.heap.size + 1) (w.alloc (.cells #[.int .i64 m.size, .slice ad m.doors.length cd, .slice ak m.keys.length ck] 27)) w2) := HBo.out.trans (hb2.mono (by omega))
    have HO2 := Lib.hid (own_below HO.out hb2)
    clear q0 q1 q2
    obtain ⟨q0, q1, q2, z2⟩ := box3 HB2.out (by omega)
    clear hb2
    go_wp2_with fail
    refine (members_c X (by omega) _).mono ?_
    rintro e w3 ⟨v3, rfl, ho3, hb3⟩
    obtain ⟨a3, c3, rfl, -, hc3⟩ := (Own.of ho3).ic
    have HB3 : Hid (Below (w.heap.size + 1) (w.alloc (.cells #[.int .i64 m.size, .slice ad m.doors.length cd, .slice ak m.keys.length ck] 27)) w3) := HB2.out.trans (hb3.mono (by omega))
    have HO3 := Lib.hid (own_below HO2.out hb3)
    clear q0 q1 q2
    obtain ⟨q0, q1, q2, z3⟩ := box3 HB3.out (by omega)
    have HB3w := Lib.hid (below_box HB3.out (by omega))
    have h40 := mem_len40' X
    have hLm : Hid (∀ k x, k < (mem X).length → (mem X)[k]! = x → ∃ i : Nat, x = i ∧ X.testBit i = true) := fun k x => mem_at
    obtain ⟨L, hL⟩ : ∃ L, L = mem X := ⟨_, rfl⟩
    rw [← hL] at hc3 h40 hLm HN ⊢
    clear hb3 ho3 hL
    have hkw := hk'.later HB3w.out
    go_wp2
    go_loop [8, 20] (fun n i => ∃ j : Nat, j ≤ L.length ∧ i = .int .i64 j ∧ n = .int .i64 ((sN ||| keysL m (L.take j) : Nat))) (fun _ i => L.length - (intOf i).toNat)
    case atStart => exact ⟨0, Nat.zero_le _, rfl, by simp [keysL]⟩
    case round =>
      obtain ⟨j, hj, rfl, rfl⟩ := hrel
      have hs := HKL.out (L.take j)
      by_cases hlt : j < L.length
      · obtain ⟨b, off, x, rfl, HXx, hbs, e0⟩ := hc3.at j hlt
        obtain ⟨i, rfl, hi⟩ := hLm.out j x hlt HXx.out
        have hik := HIN.out i hi
        have hil : i < m.keys.length := by have := HNK.out; omega
        obtain ⟨b2, off2, y, rfl, HY, hbs2, e1⟩ := hkw.at i hil
        have hy := key_facts OK.out hil
        rw [HY.out] at hy
        obtain ⟨yn, rfl⟩ := Int.eq_ofNat_of_zero_le hy.1
        have HS : Hid (keysL m (L.take (j + 1)) = keysL m (L.take j) ||| yn) := by
          show _ = _
          rw [take_snoc hlt, keysL_snoc, HXx.out]
          simp only [Int.toNat_natCast]
          rw [HY.out]; rfl
        obtain ⟨uN, huN⟩ : ∃ uN, uN = keysL m (L.take j) := ⟨_, rfl⟩
        rw [← huN] at hs HS ⊢
        clear huN
        have hor : sN ||| uN < 64 := Nat.or_lt_two_pow (n := 6) hg hs
        obtain ⟨vN, hvN⟩ : ∃ vN, vN = sN ||| uN := ⟨_, rfl⟩
        rw [← hvN] at hor ⊢
        have HV := Lib.hid hvN; clear hvN
        have ea : bits .or .i64 (vN : Int) (yn : Int) = ((vN ||| yn : Nat) : Int) := i64_or vN yn (by omega) (by omega)
        have hil' : (i : Int) < (m.keys.length : Int) := by omega
        clear hi
        go_wp2
        go_round
        case rel => exact ⟨j + 1, by omega, by go_num, by rw [HS.out, HV.out, Nat.or_assoc]⟩
        case measure => simp [intOf]; omega
      · obtain rfl : j = L.length := by omega
        have HN' : Hid (sN ||| keysL m (L.take L.length) = tN) := by show _ = _; rw [List.take_length, HN.out]
        rw [HN'.out]
        have hkk : k ≤ 64 := by omega
        have hz3 : w.heap.size + 1 ≤ w3.heap.size := by omega
        cases he : decide (tN = sN)
        · have hne : tN ≠ sN := by simpa using he
          have hlt2 : sN < tN := by
            have h1 : sN ≤ sN ||| keysL m L := Nat.left_le_or
            have := HN.out; omega
          have HNE := Lib.hid hne
          have hq : ¬ ((tN : Int) = (sN : Int)) := by omega
          have HLT := Lib.hid hlt2
          clear he hne hlt2
          go_wp2_with (at_builtin; refine wpList_append_own _ rfl _ _ 98 rfl (w.heap.size + 1) 68 i0 (.agg #[.int .i64 0, .int .i64 0]) 2 16 Try.underlying98 ji jz0 jz1 jz2 rfl (by decide) _ _ _ rfl (HO3.out.alloc _) ⟨w3.heap.size, 0, none⟩ 1 1 [.int .i64 sN, .int .i64 X] rfl rfl ?_ ?_ ?_ ?_ ?_ ?_; (exact two_new _ _ _ _); (simp [Value.oneCell']); (unfold maxLen; omega); omega; (simp; omega); intro v' w4 hown' hgrow _)
          go_roundw
          case rel => exact ⟨k + 1, by rw [HTE.out], by have := HLT.out; have := HTE.out; omega, (HB3.out.alloc hz3 _).grown hgrow (by simp; omega) (fun g hg => own_block_lo HO3.out hg), by rw [HSN.out, c2p_snoc]; exact hown', hid_step HJ (by rw [← HSE.out, HFX.out]; exact HNE.out)⟩
          case measure => have := HLT.out; simp [intOf]; omega
        · have hte : tN = sN := by simpa using he
          have HFE : Hid (gainN m sN = sN) := by show _ = _; rw [HFX.out, hte]
          rw [hte]
          clear he hte
          go_wp2_with (at_builtin; refine wpList_append_own _ rfl _ _ 98 rfl (w.heap.size + 1) 68 i0 (.agg #[.int .i64 0, .int .i64 0]) 2 16 Try.underlying98 ji jz0 jz1 jz2 rfl (by decide) _ _ _ rfl (HO3.out.alloc _) ⟨w3.heap.size, 0, none⟩ 1 1 [.int .i64 sN, .int .i64 X] rfl rfl ?_ ?_ ?_ ?_ ?_ ?_; (exact two_new _ _ _ _); (simp [Value.oneCell']); (unfold maxLen; omega); omega; (simp; omega); intro v' w4 hown' hgrow _)
          have HB4 : Hid (Below (w.heap.size + 1) (w.alloc (.cells #[.int .i64 m.size, .slice ad m.doors.length cd, .slice ak m.keys.length ck] 27)) w4) := (HB3.out.alloc hz3 _).grown hgrow (by simp; omega) (fun g hg => own_block_lo HO3.out hg)
          go_ret
          exact ⟨_, rfl, k, by rw [HSN.out, c2p_snoc]; exact (Own.mono (Own.of hown') (by omega) (Nat.le_refl _)).row, by rw [← HSE.out]; exact hk, by rw [← HSE.out]; exact HFE.out, HJ.out, below_box HB4.out (by omega)⟩
set_option maxHeartbeats 2000000 in
theorem atLast_c (v : Value) (m : Mz) (s : Nat) (w : World) (hm : MzAt w v m) (ok : MzOk m) (hs : s < 64) : Calls Try.prog 95 #[v, .int .i64 s] w fun e w' =>
    e = .returned (.agg #[.int .i64 (lastN m s), .int .i64 (nodesN m s)]) ∧ Below w.heap.size w w' := by
  have hM := hm
  obtain ⟨⟨ad, cd, ak, ck, rfl, hd, hk'⟩, nd, nk⟩ := hM
  have OK := Lib.hid ok; clear ok
  go_enter Try.func95, Try.ntmps95
  go_wp2_with fail
  refine (rounds_c _ m s _ (hm.later (by (repeat (first | exact Below.refl _ _ | apply Below.drew | apply below_drewN | (refine Below.setCell ?_ (by first | omega | (simp; done) | (simp; omega) | (dsimp only; omega)) _) | (refine Below.alloc ?_ (by first | omega | (simp; done) | (simp; omega) | (dsimp only; omega)) _))))) OK.out hs).mono ?_
  rintro e w1 ⟨u, rfl, k, ho, hk, hfx, -, hb1⟩
  have HE := Lib.hid (lastN_eq OK.out hs hk hfx)
  obtain ⟨g, cap, rfl, -, -⟩ := ho.form (by omega)
  have c0 : w1.cell? ⟨g, k * 2, none⟩ = some (.int .i64 (gK m s k : Int)) := by rw [ho.cellAt (k * 2) (by omega)]; exact (get_c2p m s k).1
  have c1 : w1.cell? ⟨g, k * 2 + 1, none⟩ = some (.int .i64 (reachN m 0 (gK m s k) : Int)) := by rw [ho.cellAt (k * 2 + 1) (by omega)]; exact (get_c2p m s k).2
  have HV : Hid (gK m s k = lastN m s ∧ reachN m 0 (gK m s k) = nodesN m s) := by show _ ∧ _; unfold nodesN; rw [HE.out]; exact ⟨rfl, rfl⟩
  rw [HV.out.1] at c0
  rw [HV.out.2] at c1
  have hz := hb1.size
  simp only [World.size_alloc] at hz
  have p0 : ∃ u, w1.cell? ⟨w.heap.size + 1, 0, none⟩ = some u := ⟨_, by rw [hb1.cell (p := ⟨w.heap.size + 1, 0, none⟩) (by simp)]; simp [go_sem]; rfl⟩
  have p1 : ∃ u, w1.cell? ⟨w.heap.size + 1, 1, none⟩ = some u := ⟨_, by rw [hb1.cell (p := ⟨w.heap.size + 1, 1, none⟩) (by simp)]; simp [go_sem]; rfl⟩
  have f0 : w1.frozen? ⟨w.heap.size + 1, 0, none⟩ = false := by rw [hb1.frozen (p := ⟨w.heap.size + 1, 0, none⟩) (by simp)]; simp [go_sem]
  have f1 : w1.frozen? ⟨w.heap.size + 1, 1, none⟩ = false := by rw [hb1.frozen (p := ⟨w.heap.size + 1, 1, none⟩) (by simp)]; simp [go_sem]
  obtain ⟨u0, p0⟩ := p0
  obtain ⟨u1, p1⟩ := p1
  have HB1 : Hid (Below w.heap.size w w1) := below_then (by (repeat (first | exact Below.refl _ _ | apply Below.drew | apply below_drewN | (refine Below.setCell ?_ (by first | omega | (simp; done) | (simp; omega) | (dsimp only; omega)) _) | (refine Below.alloc ?_ (by first | omega | (simp; done) | (simp; omega) | (dsimp only; omega)) _)))) hb1
  have hk64 : k < 64 := by have := gK_lt OK.out hs k; omega
  clear hb1 ho hk hfx
  have hk1 : (k : Int) + 1 - 1 = (k : Int) := by omega
  go_wp2_with fail
  refine bodyPost_ret (v := .agg #[.int .i64 (lastN m s : Nat), .int .i64 (nodesN m s : Nat)]) (by simp [results, Try.results95, go_sem, p0, p1]) rfl ?_
  refine ⟨rfl, ?_⟩
  repeat (first | exact HB1.out | refine Below.setCell ?_ (by show w.heap.size ≤ w.heap.size + 1; omega) _)
theorem fieldR (a b : Int) (w : World) : Sem.run Try.prog (Instr.field 68 (.agg #[.int .i64 a, .int .i64 b]) 1) w = .ok (.int .i64 b) w := by
  simp [Instr.field, asAgg, go_sem]
attribute [local go_sem] fieldR
set_option maxRecDepth 100000 in
set_option maxHeartbeats 2000000 in
theorem canWin_c (v : Value) (m : Mz) (s : Nat) (w : World) (hm : MzAt w v m) (ok : MzOk m) (hs : s < 64) : Calls Try.prog 106 #[v, .int .i64 s] w fun e w' =>
    e = .returned (.bool (winB m s)) ∧ Below w.heap.size w w' := by
  have hM := hm
  obtain ⟨⟨ad, cd, ak, ck, rfl, hd, hk'⟩, nd, nk⟩ := hM
  have hs1 : 1 ≤ m.size := ok.s1
  have hs2 : m.size ≤ 12 := ok.s2
  have hnl : nodesN m s < 4096 := (reachN_in ok _ (by show ((0 : Nat) : Int) < m.size; omega)).lt ok
  have OK := Lib.hid ok; clear ok
  obtain ⟨sn, hsn⟩ := Int.eq_ofNat_of_zero_le (show 0 ≤ m.size - 1 by omega)
  have hsn12 : sn < 12 := by omega
  have hw : IntKind.i64.wrap (m.size - 1) = (sn : Int) := by rw [hsn]; exact IntWalk.i64_in _ (by omega)
  have HW : Hid (winB m s = (nodesN m s).testBit sn) := by show _ = _; unfold winB; rw [hsn]; rfl
  obtain ⟨X, hX⟩ : ∃ X, X = nodesN m s := ⟨_, rfl⟩
  rw [← hX] at hnl HW
  have HX := Lib.hid hX; clear hX
  obtain ⟨y, HY, ey⟩ := shr_at X sn
  have hy : y < 1099511627776 := by
    have := HY.out; rw [Nat.shiftRight_eq_div_pow] at *; have := Nat.div_le_self X (2 ^ sn); omega
  have ea : bits .and .i64 (y : Int) 1 = ((y % 2 : Nat) : Int) := and1 hy
  have hbs := bit_shr X sn
  rw [← HY.out] at hbs
  rw [hbs] at ea
  have hsn0 : (0 : Int) ≤ (sn : Int) := by omega
  have hsn63 : (sn : Int) ≤ 63 := by omega
  have HSN := Lib.hid hsn
  clear hbs hy hsn
  cases hbit : X.testBit sn
  all_goals
    rw [hbit] at ea HW
    simp only [Bool.false_eq_true, if_false, if_true] at ea
    clear hbit
    go_enter Try.func106, Try.ntmps106
    go_wp2
    obtain ⟨wo, hWo⟩ : ∃ wo, wo = w.alloc (.cells #[.int .i64 m.size, .slice ad m.doors.length cd, .slice ak m.keys.length ck] 27) := ⟨_, rfl⟩
    have hb : Below (w.heap.size + 1) (w.alloc (.cells #[.int .i64 m.size, .slice ad m.doors.length cd, .slice ak m.keys.length ck] 27)) wo := by rw [hWo]; exact Below.refl _ _
    rw [← hWo]
    have HB : Hid (Below w.heap.size w wo) := below_box hb (by omega)
    obtain ⟨q0, q1, q2, z1⟩ := box3 hb (by omega)
    clear hb hWo
    go_region_held3 (fun W => W.cell? ⟨w.heap.size, 0, none⟩ = some (.int .i64 m.size) ∧ W.cell? ⟨w.heap.size, 1, none⟩ = some (.slice ad m.doors.length cd) ∧ W.cell? ⟨w.heap.size, 2, none⟩ = some (.slice ak m.keys.length ck))
      (first | exact ⟨q0, q1, q2⟩ | exact ⟨r0, r1, r2⟩)
      ((go_at_call 95; refine (atLast_c _ m s _ (hm.later HB.out.drew) OK.out hs).mono ?_; rintro e w2 ⟨rfl, hb2⟩; rw [← HX.out]; have r0 : w2.cell? ⟨w.heap.size, 0, none⟩ = some (.int .i64 m.size) := (hb2.cell (p := ⟨w.heap.size, 0, none⟩) (show w.heap.size < wo.heap.size by assumption)).trans q0; have r1 : w2.cell? ⟨w.heap.size, 1, none⟩ = some (.slice ad m.doors.length cd) := (hb2.cell (p := ⟨w.heap.size, 1, none⟩) (show w.heap.size < wo.heap.size by assumption)).trans q1; have r2 : w2.cell? ⟨w.heap.size, 2, none⟩ = some (.slice ak m.keys.length ck) := (hb2.cell (p := ⟨w.heap.size, 2, none⟩) (show w.heap.size < wo.heap.size by assumption)).trans q2))
    go_wp2
    go_ret
    exact ⟨ret_bool (by rw [HW.out] <;> rfl), below_then HB.out.drew hb2⟩
end Go.Proofs.Ytcjcgcgcloanpaa

namespace Go.KD
open Go.RowKit
def cutK (m : Mz) (s k : Nat) : List Int := (cutM m s).keys.take k ++ m.keys.drop k
theorem cutK_zero (m : Mz) (s : Nat) : cutK m s 0 = m.keys := by simp [cutK]
theorem cutK_full (m : Mz) (s : Nat) : cutK m s m.keys.length = (cutM m s).keys := by
  unfold cutK
  rw [List.drop_of_length_le (Nat.le_refl _), List.append_nil, List.take_of_length_le (by simp [cutM])]
@[simp] theorem cutK_len (m : Mz) (s k : Nat) (hk : k ≤ m.keys.length) : (cutK m s k).length = m.keys.length := by simp [cutK, cutM]; omega
theorem cutK_at (m : Mz) (s : Nat) {k : Nat} (hk : k < m.keys.length) : (cutK m s k)[k]! = m.keys[k]! := by
  unfold cutK
  rw [get_app, if_neg (by simp [cutM]; omega)]
  have : ((cutM m s).keys.take k).length = k := by simp [cutM]; omega
  rw [this, Nat.sub_self, List.drop_eq_getElem_cons hk, List.getElem!_cons_zero, getElem!_pos m.keys k hk]
theorem cutK_next (m : Mz) (s : Nat) {k : Nat} (hk : k < m.keys.length) : (cutK m s k).set k ((m.keys[k]!.toNat &&& s : Nat) : Int) = cutK m s (k + 1) := by
  unfold cutK
  have hl : ((cutM m s).keys.take k).length = k := by simp [cutM]; omega
  have hc : k < (cutM m s).keys.length := by simp [cutM]; exact hk
  rw [List.set_append_right _ _ (by omega), hl, Nat.sub_self, List.drop_eq_getElem_cons hk, List.set_cons_zero, take_snoc hc, List.append_assoc]
  congr 1
  rw [getElem!_pos (cutM m s).keys k hc, getElem!_pos m.keys k hk]
  simp [cutM]
end Go.KD
namespace Go.Proofs.Ytcjcgcgcloanpaa
open Go.RowKit Go.KD
attribute [local go_sem] later_cell later_frozen

end Go.Proofs.Ytcjcgcgcloanpaa
namespace Go.KD
open Go.RowKit
def swapL (f : List Int) (i k : Nat) : List Int := (f.set i f[k]!).set k f[i]!
def placeN (x : Nat) (a : Int) : Nat := (idxP (eqP a) (mem x)).toNat
noncomputable def pSwapFilling (m : Mz) (set : Int) (f : List Int) (a b : Int) : List Int × Bool :=
  if askB m set && fillB m set f && !(a == b) && hasI (mem set.toNat) a && hasI (mem set.toNat) b then (swapL f (placeN set.toNat a) (placeN set.toNat b), true) else ([], false)
@[simp] theorem swapL_len (f : List Int) (i k : Nat) : (swapL f i k).length = f.length := by simp [swapL]
theorem pSwapFilling_len (m : Mz) (set : Int) (f : List Int) (a b : Int) : (pSwapFilling m set f a b).1.length ≤ 1000000 := by
  unfold pSwapFilling; split
  · rename_i h
    simp only [Bool.and_eq_true, fillB, decide_eq_true_eq] at h
    have := popc_le set.toNat
    simp only [swapL_len]; omega
  · simp
theorem memK6 {x : Nat} (hx : x < 64) : memK x 6 = mem x := by
  rw [mem_eq]
  have h0 : x >>> 6 = 0 := by rw [Nat.shiftRight_eq_div_pow]; omega
  exact (memK_end h0 34).symm
theorem idx_has {l : List Int} {a : Int} (h : hasI l a = true) : ∃ i, i < l.length ∧ idxP (eqP a) l = (i : Int) ∧ l[i]! = a ∧ ∀ j, j < i → l[j]! ≠ a := by
  rw [hasI_iff] at h
  cases hf : l.findIdx? (eqP a) with
  | none =>
    rw [List.findIdx?_eq_none_iff] at hf
    have := hf a h
    simp [eqP] at this
  | some k =>
    obtain ⟨hk, h1, h2⟩ := List.findIdx?_eq_some_iff_getElem.1 hf
    refine ⟨k, hk, by unfold idxP; rw [hf], ?_, fun j hj => ?_⟩
    · rw [getElem!_pos l k hk]; simpa [eqP] using h1
    · rw [getElem!_pos l j (by omega)]; have := h2 j hj; simpa [eqP] using this
theorem idx_not {l : List Int} {a : Int} (h : hasI l a = false) : idxP (eqP a) l = -1 := by
  refine idxP_none fun j hj => ?_
  cases he : eqP a l[j]! with
  | false => rfl
  | true => rw [hasI_at hj (by simpa [eqP] using he)] at h; cases h
end Go.KD
namespace Go.Proofs.Ytcjcgcgcloanpaa
open Go.RowKit Go.KD
attribute [local go_sem] later_cell later_frozen
set_option maxHeartbeats 1000000 in
theorem l1Own_c (a : Option Addr) (cap n : Nat) (l : List Int) (w : World) (hn : n = l.length) (hA : IC w a l) (hl : n ≤ 1048576) : Calls Try.prog 91 #[.slice a n cap] w fun e w' =>
    ∃ v, e = .returned v ∧ w'.ownsRow w.heap.size 3 1 v n (ints l) ∧ Below w.heap.size w w' := by
  obtain ⟨i0, hi, hz0, hz1, hz2⟩ := info_parts infoI
  have HN := Lib.hid hn; clear hn
  cases a with
  | none =>
    have h0 : l = [] := by
      cases l with
      | nil => rfl
      | cons x l => obtain ⟨b, off, h, _⟩ := hA 0 (by simp); cases h
    subst h0
    have h00 : n = 0 := HN.out
    subst h00
    go_enter Try.func91, Try.ntmps91
    go_wp2
    go_ret
    exact ⟨_, rfl, World.ownsRow_lit w #[] 0 (Nat.le_refl _) (by unfold maxLen; omega) rfl, (Below.refl _ _).alloc (Nat.le_refl _) _⟩
  | some ad =>
    have hnews : Hid (∀ j u, (ints l)[j]? = some u → w.cell? (ad.add j) = some u) := by
      intro j u hu
      have hj : j < l.length := by
        rcases Nat.lt_or_ge j l.length with h | h
        · exact h
        · rw [List.getElem?_eq_none (by simpa using h)] at hu; cases hu
      obtain ⟨b, off, hb, hbs, hc⟩ := hA j hj
      cases hb
      rw [add_at rfl, hc, ← hu, ints, List.getElem?_map, List.getElem?_eq_getElem hj, getElem!_pos l j hj]
      rfl
    have hlt : Hid (∀ j u, (ints l)[j]? = some u → ad.block < w.heap.size) := fun j u hu => World.block_lt_of_cell? w (ad.add j) (hnews.out j u hu) |> fun h => by unfold Addr.add at h; split at h <;> exact h
    go_enter Try.func91, Try.ntmps91
    go_wp2_with (at_builtin; refine wpList_append_own _ rfl _ _ 25 rfl w.heap.size 3 i0 (.int .i64 0) 1 8 Try.underlying25 hi hz0 hz1 hz2 rfl (by decide) _ _ _ rfl (World.ownsRow_lit w #[] 0 (Nat.le_refl _) (by unfold maxLen; omega) rfl) ad n cap (ints l) rfl ?_ ?_ ?_ ?_ ?_ ?_ ?_; (rw [length_ints, HN.out]; omega); (intro j u hu; rw [World.cell?_alloc_lt _ _ _ (by have := hlt.out j u hu; unfold Addr.add; split <;> exact this)]; exact hnews.out j u hu); (intro u hu; simp only [ints, List.mem_map] at hu; obtain ⟨x, _, rfl⟩ := hu; rfl); (unfold maxLen; omega); omega; (simp); intro v' w1 hown' hgrow _)
    go_ret
    refine ⟨_, rfl, by simpa using hown', ((Below.refl _ _).alloc (Nat.le_refl _) _).grown hgrow (by simp) (fun g hg => by cases hg; exact Nat.le_refl _)⟩

end Go.Proofs.Ytcjcgcgcloanpaa
namespace Go.KD
open Go.RowKit
theorem own_intK {w : World} {lo g n cap : Nat} {e : TypeId} {L : List Int} (h : w.ownsRow lo e 1 (.slice (some ⟨g, 0, none⟩) n cap) n (ints L)) (c : Nat) (hc : c < n) (hl : L.length = n) : w.cell? ⟨g, c, none⟩ = some (.int .i64 L[c]!) := by
  rw [h.cellAt c (by omega), ints, List.getElem?_map, List.getElem?_eq_getElem (by omega), getElem!_pos L c (by omega)]
  rfl
theorem zero_ints (n : Nat) : (Builtin.zeroCells (Value.int .i64 0).cells n).toList = ints (List.replicate n 0) := by
  show (Builtin.zeroCells #[.int .i64 0] n).toList = _
  simp only [Builtin.zeroCells, ints]
  apply List.ext_getElem
  · simp
  · intro i h1 h2; simp [Nat.mod_one]
theorem run_clear_ints {P : Program} (w : World) (t ty e eb : TypeId) (i : TypeInfo) (ht : P.underlying t = some (.slice e)) (hi : P.info? e = some i) (hz : i.zero = some (.int .i64 0)) (base g n cap : Nat) (L : List Int) (hn : 0 < n)
    (hown : w.ownsRow base eb 1 (.slice (some ⟨g, 0, none⟩) n cap) n (ints L)) :
    ∃ w', (Builtin.clear_ #[t] ty #[.slice (some ⟨g, 0, none⟩) n cap]).run P w = .ok (.tuple #[]) w' ∧ w'.ownsRow base eb 1 (.slice (some ⟨g, 0, none⟩) n cap) n (ints (List.replicate n 0)) ∧ w.grownBy w' (some g) := by
  obtain ⟨hl, h⟩ := hown
  rcases h with ⟨hv, h0⟩ | ⟨g', cap', cur, hv, hb, hh, hnc, hcm, hcs, htk⟩
  · omega
  cases hv
  have hzl : (ints (List.replicate n 0)).length = n := by simp
  have hst := run_storeCells_at P g 0 eb (ints (List.replicate n 0)) 0 cur w hh (by simp; omega) (fun u hu => by simp only [ints, List.mem_map] at hu; obtain ⟨x, _, rfl⟩ := hu; rfl)
  obtain ⟨k, rfl⟩ : ∃ k, n = k + 1 := ⟨n - 1, by omega⟩
  refine ⟨w.setRow g (ints (List.replicate (k + 1) 0) ++ cur.toList.drop (k + 1)).toArray, ?_, ⟨by simp, .inr ⟨g, cap, (ints (List.replicate (k + 1) 0) ++ cur.toList.drop (k + 1)).toArray, rfl, hb, setRow_heap w g cur _ eb _ hh, hnc, hcm, ?_, ?_⟩⟩, ⟨rfl, rfl, rfl, by simp, fun j _ hk => setRow_other w g j _ (fun e => hk (by simp [e]))⟩⟩
  · simp only [Nat.add_zero, List.take_zero, List.nil_append, hzl, Nat.zero_add] at hst
    simp [Builtin.clear_, run_underlying ht, zeroValue, typeInfo, hi, hz, zero_ints, hst]
  · simp; omega
  · simp [List.take_append, ints]
/-! Fillings -/
def layS (l : List Int) (x c : Int) : List Int := l.set x.toNat ((((l[x.toNat]!).toNat ||| 2 ^ c.toNat) : Nat) : Int)
def layK (n : Nat) (cs f : List Int) : Nat → List Int
  | 0 => List.replicate n 0
  | j + 1 => layS (layK n cs f j) f[j]! cs[j]!
@[simp] theorem layK_len (n : Nat) (cs f : List Int) : ∀ j, (layK n cs f j).length = n
  | 0 => by simp [layK]
  | j + 1 => by simp [layK, layS, layK_len n cs f j]
theorem layK_bound (n : Nat) (cs f : List Int) (hc : ∀ j, j < f.length → 0 ≤ cs[j]! ∧ cs[j]! < 6) : ∀ j, j ≤ f.length → ∀ x, x < n → 0 ≤ (layK n cs f j)[x]! ∧ (layK n cs f j)[x]! < 64
  | 0, _, x, hx => by
    unfold layK
    rw [getElem!_pos _ x (by simpa using hx)]; simp
  | j + 1, hj, x, hx => by
    have ih := layK_bound n cs f hc j (by omega)
    have hcj := hc j (by omega)
    show 0 ≤ (layS (layK n cs f j) f[j]! cs[j]!)[x]! ∧ (layS (layK n cs f j) f[j]! cs[j]!)[x]! < 64
    unfold layS
    rw [getElem!_pos _ x (by simpa using hx), List.getElem_set]
    split
    · rename_i he
      rw [he]
      have h1 := ih x hx
      have h2 : ((layK n cs f j)[x]!).toNat ||| 2 ^ (cs[j]!).toNat < 2 ^ 6 := Nat.or_lt_two_pow (by omega) (Nat.pow_lt_pow_right (by omega) (by omega))
      omega
    · have h1 := ih x hx
      rwa [getElem!_pos _ x (by simpa using hx)] at h1
def layM (m : Mz) (cs f : List Int) : Mz := ⟨m.size, m.doors, layK m.keys.length cs f f.length⟩
theorem layM_ok {m : Mz} (ok : MzOk m) {cs f : List Int} (hc : ∀ j, j < f.length → 0 ≤ cs[j]! ∧ cs[j]! < 6) : MzOk (layM m cs f) := by
  refine ⟨ok.s1, ok.s2, ok.nd, by simp [layM, ok.nk], ok.dr, fun k hk => ?_⟩
  simp only [layM, layK_len] at hk
  have := layK_bound m.keys.length cs f hc f.length (Nat.le_refl _) k hk
  show setB ((layK m.keys.length cs f f.length)[k]!) = true
  rw [setB_true]; omega
/-- The colours of a set, as a filling wants them. -/
theorem mem_six {x : Nat} (hx : x < 64) {j : Nat} (hj : j < (mem x).length) : 0 ≤ (mem x)[j]! ∧ (mem x)[j]! < 6 := by
  obtain ⟨i, h1, h2⟩ := mem_at hj rfl
  have := bit_lt (n := 6) hx h2
  omega
/-! The rounds in which nodes are entered -/
def entS (i : Nat) (out : List Int) (x : Int) : List Int := if out[x.toNat]! = 0 then out.set x.toNat ((i : Int) + 1) else out
def entJ (i : Nat) (out l : List Int) (j : Nat) : List Int := (l.take j).foldl (entS i) out
def entK (m : Mz) (s : Nat) : Nat → List Int
  | 0 => List.replicate m.keys.length 0
  | i + 1 => entJ i (entK m s i) (mem (reachN m 0 (gK m s i))) (mem (reachN m 0 (gK m s i))).length
@[simp] theorem entS_len (i : Nat) (out : List Int) (x : Int) : (entS i out x).length = out.length := by unfold entS; split <;> simp
theorem entJ_step {i : Nat} {out l : List Int} {j : Nat} (h : j < l.length) : entJ i out l (j + 1) = entS i (entJ i out l j) l[j]! := by
  unfold entJ
  rw [take_snoc h, List.foldl_append]
  rfl
@[simp] theorem entJ_len (i : Nat) (out l : List Int) : ∀ j, j ≤ l.length → (entJ i out l j).length = out.length
  | 0, _ => by simp [entJ]
  | j + 1, h => by rw [entJ_step (by omega), entS_len, entJ_len i out l j (by omega)]
theorem entK_len (m : Mz) (s : Nat) : ∀ i, (entK m s i).length = m.keys.length
  | 0 => by simp [entK]
  | i + 1 => by unfold entK; rw [entJ_len _ _ _ _ (Nat.le_refl _), entK_len m s i]
def fixN (m : Mz) (s : Nat) : Nat := (List.range 64).findIdx fun k => decide (gainN m (gK m s k) = gK m s k)
def entF (m : Mz) (s : Nat) : List Int := entK m s (fixN m s + 1)
theorem fixN_eq {m : Mz} {s k : Nat} (hk : k < 64) (h : gainN m (gK m s k) = gK m s k) (h0 : ∀ j, j < k → gainN m (gK m s j) ≠ gK m s j) : fixN m s = k := by
  unfold fixN
  rw [List.findIdx_eq (by simpa using hk)]
  refine ⟨by simpa using h, fun j hj => ?_⟩
  simpa using h0 j hj
theorem entF_eq {m : Mz} {s k : Nat} (hk : k < 64) (h : gainN m (gK m s k) = gK m s k) (h0 : ∀ j, j < k → gainN m (gK m s j) ≠ gK m s j) : entF m s = entK m s (k + 1) := by unfold entF; rw [fixN_eq hk h h0]
end Go.KD
