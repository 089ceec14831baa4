/- Plans: impl.runPlan. -/
import Derived.Test.YtkhackdbnmcffaaKdDo
set_option linter.unusedVariables false
set_option linter.unusedSimpArgs false
namespace Go.KD
/-- The visit behind the first k acts of a plan; none if it is none. -/
def runK (m : Wk) (p : List Int) : Nat → Option (Int × Int)
  | 0 => some (0, 0)
  | k + 1 => match runK m p k with
    | none => none
    | some (x, l) => if hasI (actsL m x l) p[k]! then some (doP m x l p[k]!) else none
def runP (m : Wk) (p : List Int) : Int × Int × Bool :=
  if p.length ≤ 60 then (match runK m p p.length with | some (x, l) => (x, l, true) | none => (0, 0, false)) else (0, 0, false)
theorem act_range {m : Wk} (ok : WkOk m) {x l : Nat} {a : Int} (hx : (x : Int) < m.size) (h : hasI (actsL m x l) a = true) : a = -1 ∨ (0 ≤ a ∧ a < m.size) := by
  rw [hasI_iff] at h
  unfold actsL at h
  rw [List.mem_append] at h
  rcases h with h | h
  · split at h
    · cases h
    · left; simpa using h
  · right
    have : ∀ k, k ≤ m.gates.length → ∀ i : Nat, (nbK m.gates x l k).testBit i = true → (i : Int) < m.size := by
      intro k
      induction k with
      | zero => intro _ i hi; simp [nbK] at hi
      | succ k ih =>
        intro hk i hi
        rw [nb_step (by omega)] at hi
        obtain ⟨a, b, c, d, hg⟩ : ∃ a b c d, m.gates[k]! = (a, b, c, d) := ⟨_, _, _, _, rfl⟩
        have f := gate_facts ok (by omega) hg
        have ih := ih (by omega) i
        rw [hg] at hi
        have hs : ∀ (s : Nat) (z : Int), 0 ≤ z → z < m.size → (setN s z).testBit i = true → s.testBit i = true ∨ (i : Int) < m.size := by
          intro s z z0 z1 h
          unfold setN at h
          rw [Nat.testBit_or, Bool.or_eq_true, Nat.testBit_two_pow] at h
          rcases h with h | h
          · exact .inl h
          · right; have : z.toNat = i := by simpa using h
            omega
        unfold adjG at hi
        dsimp only at hi
        split at hi
        · split at hi <;> split at hi
          · rcases hs _ _ (by omega) (by omega) hi with h | h
            · rcases hs _ _ (by omega) (by omega) h with h | h
              · exact ih h
              · exact h
            · exact h
          · rcases hs _ _ (by omega) (by omega) hi with h | h
            · exact ih h
            · exact h
          · rcases hs _ _ (by omega) (by omega) hi with h | h
            · exact ih h
            · exact h
          · exact ih hi
        · exact ih hi
    rw [in_mem] at h
    obtain ⟨i, _, h2, rfl⟩ := h
    exact ⟨by omega, this _ (Nat.le_refl _) i h2⟩
theorem xorV_small {a b : Int} (ha : 0 ≤ a ∧ a < 64) (hb : 0 ≤ b ∧ b < 64) : 0 ≤ xorV a b ∧ xorV a b < 64 := by
  have : a.toNat ^^^ b.toNat < 2 ^ 6 := Nat.xor_lt_two_pow (by omega) (by omega)
  unfold xorV
  omega
/-- A plan leads to visits. -/
theorem runK_ok {m : Wk} (ok : WkOk m) (p : List Int) : ∀ k x l, runK m p k = some (x, l) → ∃ xn ln : Nat, x = xn ∧ l = ln ∧ (xn : Int) < m.size ∧ ln < 64
  | 0, x, l, h => by
    simp only [runK, Option.some.injEq, Prod.mk.injEq] at h
    obtain ⟨rfl, rfl⟩ := h
    have := ok.s1
    exact ⟨0, 0, rfl, rfl, by simp; omega, by omega⟩
  | k + 1, x, l, h => by
    unfold runK at h
    split at h
    · cases h
    · rename_i x0 l0 h0
      obtain ⟨xn, ln, rfl, rfl, hx, hl⟩ := runK_ok ok p k _ _ h0
      split at h
      · rename_i ha
        have hp := ok.pl xn (by have := ok.np; omega)
        obtain ⟨p0, p1⟩ := setB_true.1 hp
        have hr := act_range ok hx ha
        simp only [Option.some.injEq] at h
        unfold doP at h
        split at h
        · cases h
          obtain ⟨g0, g1⟩ := xorV_small (a := (ln : Int)) (b := m.pulls[xn]!) (by omega) (by omega)
          refine ⟨xn, (xorV ln m.pulls[xn]!).toNat, rfl, ?_, hx, by omega⟩
          simp only [Int.toNat_natCast]
          omega
        · cases h
          exact ⟨p[k]!.toNat, ln, by omega, rfl, by omega, hl⟩
      · cases h
theorem runK_none {m : Wk} {p : List Int} {k : Nat} (h : runK m p k = none) : ∀ j, runK m p (k + j) = none
  | 0 => h
  | j + 1 => by show runK m p ((k + j) + 1) = none; unfold runK; rw [runK_none h j]
end Go.KD
namespace Go.Proofs.Ytkhackdbnmcffaa
open Go.RowKit Go.KD
attribute [local go_sem] later_cell later_frozen
set_option maxRecDepth 100000 in
set_option maxHeartbeats 4000000 in
theorem runPlan_c (v : Value) (m : Wk) (a : Option Addr) (cap : Nat) (p : List Int) (w : World) (hm : WkAt w v m) (ok : WkOk m) (hA : IC w a p) (hl : p.length ≤ 1048576) :
    Calls Try.prog 107 #[v, .slice a p.length cap] w fun e w' => e = .returned (.tuple #[.int .i64 (runP m p).1, .int .i64 (runP m p).2.1, .bool (runP m p).2.2]) ∧ Below w.heap.size w w' := by
  have hM := hm
  obtain ⟨⟨ad, cd, ak, ck, rfl, hd, hk'⟩, nd, nk⟩ := hM
  have OK := Lib.hid ok; clear ok
  by_cases h60 : p.length ≤ 60
  case neg =>
    have g : decide ((60 : Int) < (p.length : Int)) = true := by simp; omega
    have HD : Hid (runP m p = (0, 0, false)) := by show _ = _; simp [runP, h60]
    clear h60
    go_enter Try.func107, Try.ntmps107
    go_wp2
    go_ret3
    exact ⟨ret_tup2 (by rw [HD.out] <;> rfl), by (repeat (first | exact Below.refl _ _ | apply Below.drew | apply below_drewN | (refine Below.setCell ?_ (by first | omega | (simp; done) | (simp; omega) | (dsimp only; omega)) _) | (refine Below.alloc ?_ (by first | omega | (simp; done) | (simp; omega) | (dsimp only; omega)) _)))⟩
  case pos =>
    have g : decide ((60 : Int) < (p.length : Int)) = false := by simp; omega
    go_enter Try.func107, Try.ntmps107
    go_wp2
    go_loopw [7, 8, 16] (fun x l i wr => ∃ k xn ln : Nat, k ≤ p.length ∧ i = .int .i64 k ∧ x = .int .i64 xn ∧ l = .int .i64 ln ∧ Hid (runK m p k = some ((xn : Int), (ln : Int))) ∧ (xn : Int) < m.size ∧ ln < 64 ∧ Below (w.heap.size + 1) (w.alloc (.cells #[.int .i64 m.size, .slice ad m.gates.length cd, .slice ak m.pulls.length ck] 29)) wr) (fun _ _ i _ => p.length - (intOf i).toNat)
    case atStart => exact ⟨0, 0, 0, Nat.zero_le _, rfl, rfl, rfl, rfl, by have := OK.out.s1; simp; omega, by omega, Below.refl _ _⟩
    case round =>
      obtain ⟨wo, rfl⟩ : ∃ wo : World, wo = wr := ⟨_, rfl⟩
      obtain ⟨k, xn, ln, hkl, rfl, rfl, rfl, HR, hx, hln, hb⟩ := hrel
      obtain ⟨hc, hf, hz⟩ := bcell3 hb
      simp only [World.size_alloc] at hz
      have hz1 : w.heap.size < wo.heap.size := by omega
      have HB : Hid (Below w.heap.size w wo) := (by (repeat (first | exact Below.refl _ _ | apply Below.drew | apply below_drewN | (refine Below.setCell ?_ (by first | omega | (simp; done) | (simp; omega) | (dsimp only; omega)) _) | (refine Below.alloc ?_ (by first | omega | (simp; done) | (simp; omega) | (dsimp only; omega)) _))) : Below w.heap.size w (w.alloc _)).trans (hb.mono (by omega))
      have HBo := Lib.hid hb
      by_cases hlt : k < p.length
      · obtain ⟨b, off, y, rfl, HY, hbs, e0⟩ := (hA.later HB.out).at k hlt
        have h41 := actsL_len m xn ln
        cases p1 : hasI (actsL m xn ln) y
        · have HD : Hid (runP m p = (0, 0, false)) := by
            show _ = _
            have h1 : runK m p (k + 1) = none := by unfold runK; rw [HR.out]; simp [HY.out, p1]
            have h2 := runK_none h1 (p.length - (k + 1))
            rw [show k + 1 + (p.length - (k + 1)) = p.length from by omega] at h2
            simp [runP, h2]
          go_wp2_with fail
          refine (acts_c _ m xn ln _ (hm.later HB.out) OK.out hx hln).mono ?_
          rintro e w2 ⟨u, rfl, ho, hb2⟩
          obtain ⟨au, cu, rfl, -, hi⟩ := (Own.of ho).ic
          have HI := Lib.hid hi; clear hi ho
          go_wp2_with fail
          refine (contains_c _ _ _ (actsL m xn ln) _ _ rfl HI.out (by omega)).mono ?_
          rintro e w3 ⟨rfl, rfl⟩
          rw [p1]
          go_wp2_with fail
          go_ret3
          exact ⟨ret_tup2 (by rw [HD.out] <;> rfl), below_then HB.out hb2⟩
        · have h1 : runK m p (k + 1) = some (doP m xn ln y) := by unfold runK; rw [HR.out]; simp [HY.out, p1]
          obtain ⟨x2, l2, hx2, hl2, hx3, hl3⟩ := runK_ok OK.out p (k + 1) (doP m xn ln y).1 (doP m xn ln y).2 h1
          have HX2 := Lib.hid hx2; have HL2 := Lib.hid hl2; clear hx2 hl2
          have H1 := Lib.hid h1; clear h1
          go_wp2_with fail
          refine (acts_c _ m xn ln _ (hm.later HB.out) OK.out hx hln).mono ?_
          rintro e w2 ⟨u, rfl, ho, hb2⟩
          obtain ⟨au, cu, rfl, -, hi⟩ := (Own.of ho).ic
          have HI := Lib.hid hi; clear hi ho
          have HB2 : Hid (Below w.heap.size w w2) := below_then HB.out hb2
          have hz2 := hb2.size
          have q0 : w2.cell? ⟨w.heap.size, 0, none⟩ = some (.int .i64 m.size) := by rw [hb2.cell (p := ⟨w.heap.size, 0, none⟩) hz1, HBo.out.cell (p := ⟨w.heap.size, 0, none⟩) (by simp)]; simp [go_sem]
          have q1 : w2.cell? ⟨w.heap.size, 1, none⟩ = some (.slice ad m.gates.length cd) := by rw [hb2.cell (p := ⟨w.heap.size, 1, none⟩) hz1, HBo.out.cell (p := ⟨w.heap.size, 1, none⟩) (by simp)]; simp [go_sem]
          have q2 : w2.cell? ⟨w.heap.size, 2, none⟩ = some (.slice ak m.pulls.length ck) := by rw [hb2.cell (p := ⟨w.heap.size, 2, none⟩) hz1, HBo.out.cell (p := ⟨w.heap.size, 2, none⟩) (by simp)]; simp [go_sem]
          have HB2' : Hid (Below (w.heap.size + 1) (w.alloc (.cells #[.int .i64 m.size, .slice ad m.gates.length cd, .slice ak m.pulls.length ck] 29)) w2) := HBo.out.trans (hb2.mono (by omega))
          clear hb2 hc hf
          go_wp2_with fail
          refine (contains_c _ _ _ (actsL m xn ln) _ _ rfl HI.out (by omega)).mono ?_
          rintro e w3 ⟨rfl, rfl⟩
          rw [p1]
          go_wp2_with fail
          refine (behind_c _ m xn ln y _ (hm.later HB2.out) OK.out hx hln).mono ?_
          rintro e w4 ⟨rfl, hb4⟩
          rw [HX2.out, HL2.out]
          go_wp2
          go_roundw
          case rel => exact ⟨k + 1, x2, l2, by omega, by go_num, rfl, rfl, by show _ = _; rw [H1.out, ← HX2.out, ← HL2.out], hx3, hl3, HB2'.out.trans (hb4.mono (by omega))⟩
          case measure => simp [intOf]; omega
      · obtain rfl : k = p.length := by omega
        have HD : Hid (runP m p = ((xn : Int), (ln : Int), true)) := by show _ = _; simp [runP, h60, HR.out]
        go_wp2
        go_ret3
        exact ⟨ret_tup2 (by rw [HD.out] <;> rfl), HB.out⟩
end Go.Proofs.Ytkhackdbnmcffaa
