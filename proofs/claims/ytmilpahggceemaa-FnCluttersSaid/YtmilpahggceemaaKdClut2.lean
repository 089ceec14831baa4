/- Clutters: what the reference asks of a list; sets that meet. -/
import Derived.Test.YtmilpahggceemaaKdClut1
import Derived.BigQuiet
set_option linter.unusedVariables false
set_option linter.unusedSimpArgs false
namespace Go.KD
open Go.RowKit
def setsB (l : List Int) : Bool := l.all setB
def natL (l : List Int) : List Nat := l.map Int.toNat
@[simp] theorem natL_len (l : List Int) : (natL l).length = l.length := by simp [natL]
theorem natL_at {l : List Int} {i : Nat} (hi : i < l.length) : (natL l)[i]! = (l[i]!).toNat := by
  rw [getElem!_pos (natL l) i (by simpa using hi), getElem!_pos l i hi]; simp [natL]
theorem nats_back {l : List Int} (h : setsB l = true) : natsI (natL l) = l := by
  unfold natsI natL
  rw [List.map_map]
  conv => rhs; rw [← List.map_id l]
  refine List.map_congr_left fun x hx => ?_
  unfold setsB at h
  have := setB_true.1 (List.all_eq_true.1 h x hx)
  simp; omega
theorem natL_lt {l : List Int} (h : setsB l = true) : ∀ t ∈ natL l, t < 64 := by
  intro t ht
  obtain ⟨x, hx, rfl⟩ := List.mem_map.1 ht
  unfold setsB at h
  have := setB_true.1 (List.all_eq_true.1 h x hx)
  omega
/-- One place of a clutter. -/
def clAt (l : List Int) (i : Nat) : Bool := setB l[i]! && (decide (i = 0) || beforeS (l[i - 1]!).toNat (l[i]!).toNat) && (List.range i).all fun k => !(subB (l[k]!).toNat (l[i]!).toNat)
def clB (l : List Int) : Bool := decide (l.length ≤ 20) && (List.range l.length).all (clAt l)
def isClB (l : List Int) : Bool := decide (l.length ≤ 20) && setsB l && isClS (natL l)
theorem clB_eq (l : List Int) : clB l = isClB l := by
  unfold clB isClB
  by_cases h20 : l.length ≤ 20
  · rw [decide_eq_true h20, Bool.true_and, Bool.true_and]
    by_cases hs : setsB l = true
    · rw [hs, Bool.true_and]
      unfold isClS
      rw [natL_len, Bool.eq_iff_iff, List.all_eq_true, List.all_eq_true]
      refine forall_congr' fun i => forall_congr' fun hi => ?_
      have hi := List.mem_range.1 hi
      have hset : ∀ k, k < l.length → setB l[k]! = true := fun k hk => by
        rw [getElem!_pos l k hk]; exact List.all_eq_true.1 hs _ (List.getElem_mem hk)
      have hlt : ∀ k, k < l.length → (l[k]!).toNat < 64 := fun k hk => by have := setB_true.1 (hset k hk); omega
      unfold clAt
      rw [hset i hi, Bool.true_and, natL_at hi]
      have e1 : (decide (i = 0) || beforeS (l[i - 1]!).toNat (l[i]!).toNat) = (decide (i = 0) || decide (keyS (natL l)[i - 1]! < keyS (l[i]!).toNat)) := by
        by_cases e : i = 0
        · simp [e]
        · rw [beforeS_key _ (hlt (i - 1) (by omega)) _ (hlt i hi), natL_at (by omega)]
      have e2 : ((List.range i).all fun k => !(subB (l[k]!).toNat (l[i]!).toNat)) = ((List.range i).all fun k => !(subB (natL l)[k]! (l[i]!).toNat)) := by
        rw [Bool.eq_iff_iff, List.all_eq_true, List.all_eq_true]
        refine forall_congr' fun k => forall_congr' fun hk => ?_
        rw [natL_at (by have := List.mem_range.1 hk; omega)]
      rw [e1, e2]
    · have hf : setsB l = false := by simpa using hs
      rw [hf, Bool.false_and, ← Bool.not_eq_true, List.all_eq_true]
      intro hall
      apply hs
      unfold setsB
      rw [List.all_eq_true]
      intro x hx
      obtain ⟨i, hi, rfl⟩ := List.mem_iff_getElem.1 hx
      have := hall i (List.mem_range.2 hi)
      unfold clAt at this
      simp only [Bool.and_eq_true] at this
      rw [getElem!_pos l i hi] at this
      exact this.1.1
  · rw [decide_eq_false h20]; simp
theorem clB_no {l : List Int} {i : Nat} (hi : i < l.length) (h : clAt l i = false) : clB l = false := by
  unfold clB
  rw [← Bool.not_eq_true, Bool.and_eq_true, List.all_eq_true]
  rintro ⟨_, h2⟩
  rw [h2 i (List.mem_range.2 hi)] at h; cases h
theorem meetN_congr (l : List Nat) (s : Nat) : meetN l s = l.all fun t => !(t &&& s == 0) := rfl
theorem meet_up {l : List Nat} (a b : Nat) (h : subB a b = true) (k : meetN l a = true) : meetN l b = true := by
  unfold meetN at *
  rw [List.all_eq_true] at *
  intro t ht
  have h1 := k t ht
  rw [Bool.not_eq_true', beq_eq_false_iff_ne] at *
  intro h0
  apply h1
  apply Nat.eq_of_testBit_eq
  intro i
  rw [Nat.testBit_and, Nat.zero_testBit]
  have h2 := congrArg (fun z => Nat.testBit z i) h0
  simp only [Nat.testBit_and, Nat.zero_testBit] at h2
  cases ha : a.testBit i
  · simp
  · rw [subB_iff.1 h i ha] at h2; simpa using h2
end Go.KD
namespace Go.Proofs.Ytmilpahggceemaa
open Go.RowKit Go.KD
attribute [local go_sem] later_cell later_frozen
theorem l6Before_c (a b : Nat) (ha : a < 64) (hb : b < 64) (w : World) : Calls Try.prog 253 #[.int .i64 a, .int .i64 b] w fun e w' => e = .returned (.bool (beforeS a b)) ∧ w = w' := by
  by_cases h : popN a = popN b
  · have h1 : (popc a != popc b) = false := by
      have : popc a = popc b := by unfold popc; rw [h]
      simp [this]
    have HR : Hid (beforeS a b = decide (a < b)) := by show _ = _; unfold beforeS; rw [if_neg (by simp [h])]
    clear h
    go_enter Try.func253, Try.ntmps253
    go_wp2_with (go_at_call 263; refine (l2Many_c _ (by first | exact ha | exact hb) _).mono ?_; rintro e w1 ⟨rfl, rfl⟩)
    go_ret
    exact ⟨ret_bool (by first | exact HR.out.symm | (rw [HR.out]; simp)), rfl⟩
  · have h1 : (popc a != popc b) = true := by
      rw [bne_iff_ne]; intro e; apply h; unfold popc at e; omega
    have HR : Hid (beforeS a b = decide (popc a < popc b)) := by
      show _ = _
      unfold beforeS
      rw [if_pos h]
      unfold popc
      exact decide_eq_decide.2 (by omega)
    clear h
    go_enter Try.func253, Try.ntmps253
    go_wp2_with (go_at_call 263; refine (l2Many_c _ (by first | exact ha | exact hb) _).mono ?_; rintro e w1 ⟨rfl, rfl⟩)
    go_ret
    exact ⟨ret_bool (by rw [HR.out]), rfl⟩
theorem l6Meets_c (a : Option Addr) (c n : Nat) (L : List Nat) (s : Nat) (w : World) (hn : n = L.length) (hA : IC w a (natsI L)) (hL : ∀ t ∈ L, t < 64) (hs : s < 64) (hl : n ≤ 1048576) : Calls Try.prog 127 #[.slice a n c, .int .i64 s] w fun e w' => e = .returned (.bool (meetN L s)) ∧ w = w' := by
  subst hn
  have HL := Lib.hid hL; clear hL
  go_enter Try.func127, Try.ntmps127
  go_wp2
  go_loop [5] (fun i => ∃ k : Nat, i = .int .i64 k ∧ k ≤ L.length ∧ Hid (∀ j, j < k → (L[j]! &&& s == 0) = false)) (fun i => L.length - (intOf i).toNat)
  case atStart => exact ⟨0, rfl, Nat.zero_le _, fun j hj => by omega⟩
  case round =>
    obtain ⟨k, rfl, hk, HK⟩ := hrel
    by_cases hlt : k < L.length
    · have hkI : (k : Int) < (L.length : Int) := by omega
      obtain ⟨b, off, x, rfl, HX, hbs, e0⟩ := hA.at k (by simpa using hlt)
      rw [natsI_at hlt] at HX
      have h64 : L[k]! < 64 := HL.out _ (by rw [getElem!_pos L k hlt]; exact List.getElem_mem hlt)
      obtain ⟨t, ht⟩ : ∃ t, t = L[k]! := ⟨_, rfl⟩
      rw [← ht] at HX h64
      have hx := HX.out
      subst hx
      have HT := Lib.hid ht; clear ht HX
      have ea : bits .and .i64 (t : Int) (s : Int) = ((t &&& s : Nat) : Int) := i64_and t s (by omega) (by omega)
      obtain ⟨z, hz⟩ : ∃ z, z = t &&& s := ⟨_, rfl⟩
      rw [← hz] at ea
      have HZ := Lib.hid hz; clear hz
      by_cases h0 : z = 0
      · have HR : Hid (meetN L s = false) := by
          show _ = _
          rw [← Bool.not_eq_true]
          unfold meetN
          rw [List.all_eq_true]
          intro h
          have := h L[k]! (by rw [getElem!_pos L k hlt]; exact List.getElem_mem hlt)
          rw [← HT.out, ← HZ.out, h0] at this
          simp at this
        subst h0
        go_wp2
        go_ret
        exact ⟨by rw [HR.out]; rfl, rfl⟩
      · have h1 : ((z : Int) == 0) = false := by simpa using h0
        have HN : Hid (∀ j, j < k + 1 → (L[j]! &&& s == 0) = false) := by
          intro j hj
          rcases Nat.lt_or_ge j k with h | h
          · exact HK.out j h
          · obtain rfl : j = k := by omega
            rw [← HT.out, ← HZ.out]; simpa using h0
        go_wp2
        go_round
        case rel => exact ⟨k + 1, by go_num, by omega, HN⟩
        case measure => simp [intOf]; omega
    · obtain rfl : k = L.length := by omega
      have HR : Hid (meetN L s = true) := by
        show _ = _
        unfold meetN
        rw [List.all_eq_true]
        intro t ht
        obtain ⟨j, hj, rfl⟩ := List.mem_iff_getElem.1 ht
        have := HK.out j hj
        rw [getElem!_pos L j hj] at this
        simp [this]
      go_wp2
      go_ret
      exact ⟨by rw [HR.out]; rfl, rfl⟩
set_option maxRecDepth 100000 in
set_option maxHeartbeats 8000000 in
theorem l6Clutter_c (a : Option Addr) (c n : Nat) (l : List Int) (w : World) (hn : n = l.length) (hA : IC w a l) (hl : n ≤ 1048576) : Calls Try.prog 126 #[.slice a n c] w fun e w' => e = .returned (.bool (isClB l)) ∧ Below w.heap.size w w' := by
  subst hn
  rw [← clB_eq]
  go_enter Try.func126, Try.ntmps126
  go_wp2
  go_loopw [3] (fun i wr => ∃ k : Nat, i = .int .i64 k ∧ k ≤ l.length ∧ k ≤ 21 ∧ Hid (∀ j, j < k → clAt l j = true) ∧ Below w.heap.size w wr) (fun i _ => 21 - (intOf i).toNat)
  case atStart => exact ⟨0, rfl, Nat.zero_le _, by omega, fun j hj => by omega, Below.refl _ _⟩
  case round =>
    obtain ⟨wo, rfl⟩ : ∃ wo : World, wo = wr := ⟨_, rfl⟩
    obtain ⟨k, rfl, hk, hk21, HK, hb⟩ := hrel
    have HB := Lib.hid hb; clear hb
    by_cases hlt : k < l.length ∧ k ≤ 20
    · obtain ⟨hlt, hk20⟩ := hlt
      have hkI : (k : Int) < (l.length : Int) := by omega
      have hk2 : (k : Int) ≤ 20 := by omega
      have d1 : decide ((k : Int) < (l.length : Int)) = true := decide_eq_true hkI
      obtain ⟨b, off, x, rfl, HX, hbs, e0⟩ := (hA.later HB.out).at k hlt
      cases hsx : setB x
      case false =>
        have HF : Hid (clB l = false) := clB_no hlt (by unfold clAt; rw [HX.out, hsx]; simp)
        go_wp2
        refine wp_region_later (wo.heap.size) (by kernel_rfl) (by kernel_rfl) ?_
        repeat (first | go_big_quiet_skip | (go_big_quiet_want; go_big_quiet_op; (first | go_big_quiet_on | (apply Exists.intro; refine ⟨fun W => ?_, ?_⟩; (first | (go_at_call 133; exact Calls.later_same (l2Set_c _ _))); go_big_quiet_on))))
        refine wpQuiet_nil ?_; rintro _ ⟨⟨w9, hb9⟩, rfl⟩; obtain ⟨hc9, hf9, hz9⟩ := bcell3 hb9
        rw [hsx]
        go_wp2
        go_ret
        exact ⟨by rw [HF.out]; rfl, HB.out.trans (hb9.mono HB.out.size)⟩
      case true =>
        obtain ⟨hx0, hx63⟩ := setB_true.1 hsx
        obtain ⟨xn, rfl⟩ := Int.eq_ofNat_of_zero_le hx0
        have hxn : xn < 64 := by omega
        -- the tests of the place: what they come to
        go_wp2
        go_upto_region 4 with fail
        go_cut [37] (fun s37 wx => s37 = .bool (!(decide (k = 0) || beforeS (l[k - 1]!).toNat xn)) ∧ Below wo.heap.size wo wx)
        case first =>
          by_cases hk0 : k = 0
          · have hk0' : ¬ (0 < (k : Int)) := by omega
            have hk0d : decide (0 < k) = false := decide_eq_false (by omega)
            have HK0 := Lib.hid hk0
            clear hk0
            refine wp_region_later (wo.heap.size) (by kernel_rfl) (by kernel_rfl) ?_
            repeat (first | go_big_quiet_skip | (go_big_quiet_want; go_big_quiet_op; (first | go_big_quiet_on | (apply Exists.intro; refine ⟨fun W => ?_, ?_⟩; (first | (go_at_call 133; exact Calls.later_same (l2Set_c _ _))); go_big_quiet_on))))
            refine wpQuiet_nil ?_; rintro _ ⟨⟨w9, hb9⟩, rfl⟩; obtain ⟨hc9, hf9, hz9⟩ := bcell3 hb9
            go_wp2_with fail
            go_meet
            case rel => exact ⟨by rw [HK0.out]; rfl, hb9⟩
          · obtain ⟨k1, hk1⟩ : ∃ k1, k = k1 + 1 := ⟨k - 1, by omega⟩
            have hset1 : setB l[k1]! = true := by have := HK.out k1 (by omega); unfold clAt at this; simp only [Bool.and_eq_true] at this; exact this.1.1
            obtain ⟨b1, off1, x1, hb1, HX1, hbs1, f0⟩ := (hA.later HB.out).at k1 (by omega)
            cases hb1
            rw [HX1.out] at hset1
            obtain ⟨hy1, hy2⟩ := setB_true.1 hset1
            obtain ⟨yn, rfl⟩ := Int.eq_ofNat_of_zero_le hy1
            have hyn : yn < 64 := by omega
            have hw1 : IntKind.i64.wrap ((k : Int) - 1) = (k1 : Int) := by rw [IntKind.wrap_i64]; omega
            have hk1I : (k1 : Int) < (l.length : Int) := by omega
            have hgt : decide (0 < k) = true := decide_eq_true (by omega)
            have HK1 : Hid (k - 1 = k1 ∧ k ≠ 0) := ⟨by omega, by omega⟩
            clear hk0 hk1 hset1
            refine wp_region_later (wo.heap.size) (by kernel_rfl) (by kernel_rfl) ?_
            repeat (first | go_big_quiet_skip | (go_big_quiet_want; go_big_quiet_op; (first | go_big_quiet_on | (apply Exists.intro; refine ⟨fun W => ?_, ?_⟩; (first | (go_at_call 133; exact Calls.later_same (l2Set_c _ _)) | (go_at_call 253; exact Calls.later_same (l6Before_c _ _ hyn hxn _))); go_big_quiet_on))))
            refine wpQuiet_nil ?_; rintro _ ⟨⟨w9, hb9⟩, rfl⟩; obtain ⟨hc9, hf9, hz9⟩ := bcell3 hb9
            go_wp2_with fail
            go_meet
            case rel => exact ⟨by rw [HK1.out.1, HX1.out, decide_eq_false HK1.out.2]; rfl, hb9⟩
        case rest =>
          obtain ⟨rfl, hb2⟩ := hcut
          have HB2 := Lib.hid (HB.out.trans (hb2.mono HB.out.size))
          clear hb2
          obtain ⟨cB, hcB⟩ : ∃ cB, cB = (decide (k = 0) || beforeS (l[k - 1]!).toNat xn) := ⟨_, rfl⟩
          have HCA : Hid (clAt l k = (cB && (List.range k).all fun j => !(subB (l[j]!).toNat xn))) := by
            show _ = _
            unfold clAt
            rw [HX.out, hsx, Bool.true_and, hcB]
            rfl
          rw [← hcB]
          clear hcB
          cases cB
          case false =>
            have HF : Hid (clB l = false) := clB_no hlt (by rw [HCA.out]; rfl)
            go_wp2
            go_ret
            exact ⟨by rw [HF.out]; rfl, HB2.out⟩
          case true =>
            go_wp2
            go_loopw [4] (fun jv wr => ∃ j : Nat, jv = .int .i64 j ∧ j ≤ k ∧ Hid (∀ q, q < j → subB (l[q]!).toNat xn = false) ∧ Below w.heap.size w wr) (fun jv _ => k - (intOf jv).toNat)
            case atStart => exact ⟨0, rfl, Nat.zero_le _, fun q hq => by omega, HB2.out⟩
            case round =>
              obtain ⟨wi, rfl⟩ : ∃ wi : World, wi = wr := ⟨_, rfl⟩
              obtain ⟨j, rfl, hj, HJ, hb⟩ := hrel
              have HBi := Lib.hid hb; clear hb
              by_cases hlt3 : j < k
              · have hjI : (j : Int) < (k : Int) := by omega
                have hjl : (j : Int) < (l.length : Int) := by omega
                obtain ⟨b2, off2, x2, hb2, HX2, hbs2, f2⟩ := (hA.later HBi.out).at k hlt
                cases hb2
                have hx2 : x2 = (xn : Int) := HX2.out.symm.trans HX.out
                subst hx2
                obtain ⟨b3, off3, x3, hb3, HX3, hbs3, f3⟩ := (hA.later HBi.out).at j (by omega)
                cases hb3
                have hsetj : setB l[j]! = true := by have := HK.out j (by omega); unfold clAt at this; simp only [Bool.and_eq_true] at this; exact this.1.1
                rw [HX3.out] at hsetj
                obtain ⟨hy1, hy2⟩ := setB_true.1 hsetj
                obtain ⟨yn, rfl⟩ := Int.eq_ofNat_of_zero_le hy1
                have hyn : yn < 4096 := by omega
                have hxn4 : xn < 4096 := by omega
                clear hsetj e0
                obtain ⟨sb, hsb⟩ : ∃ sb, sb = subB yn xn := ⟨_, rfl⟩
                have HSB := Lib.hid hsb
                go_wp2
                refine wp_region_later (wi.heap.size) (by kernel_rfl) (by kernel_rfl) ?_
                repeat (first | go_big_quiet_skip | (go_big_quiet_want; go_big_quiet_op; (first | go_big_quiet_on | (apply Exists.intro; refine ⟨fun W => ?_, ?_⟩; (first | (go_at_call 134; exact Calls.later_same (l2Has_c xn yn hxn4 hyn _))); go_big_quiet_on))))
                refine wpQuiet_nil ?_; rintro _ ⟨⟨w9, hb9⟩, rfl⟩; obtain ⟨hc9, hf9, hz9⟩ := bcell3 hb9
                rw [← hsb]
                clear hsb
                cases sb
                case true =>
                  have HF : Hid (clB l = false) := clB_no hlt (by
                    rw [HCA.out, ← Bool.not_eq_true, Bool.true_and, List.all_eq_true]
                    intro h
                    have := h j (List.mem_range.2 hlt3)
                    rw [HX3.out] at this
                    have h2 := HSB.out
                    rw [show ((yn : Int)).toNat = yn from rfl, ← h2] at this
                    cases this)
                  go_wp2
                  go_ret
                  exact ⟨by rw [HF.out]; rfl, HBi.out.trans (hb9.mono HBi.out.size)⟩
                case false =>
                  go_wp2
                  go_roundw
                  case rel => exact ⟨j + 1, by go_num, by omega, (fun q hq => by
                    rcases Nat.lt_or_ge q j with h | h
                    · exact HJ.out q h
                    · obtain rfl : q = j := by omega
                      rw [HX3.out]; exact HSB.out.symm), HBi.out.trans (hb9.mono HBi.out.size)⟩
                  case measure => simp [intOf]; omega
              · obtain rfl : j = k := by omega
                have HN : Hid (∀ q, q < j + 1 → clAt l q = true) := by
                  intro q hq
                  rcases Nat.lt_or_ge q j with h | h
                  · exact HK.out q h
                  · obtain rfl : q = j := by omega
                    rw [HCA.out, Bool.true_and, List.all_eq_true]
                    intro i hi
                    rw [HJ.out i (List.mem_range.1 hi)]; rfl
                go_wp2
                go_roundw
                case rel => exact ⟨j + 1, by go_num, by omega, by omega, HN, HBi.out⟩
                case measure => simp [intOf]; omega
    · by_cases h1 : k < l.length
      · have hk21 : k = 21 := by omega
        have hkI : (k : Int) < (l.length : Int) := by omega
        have hk2 : ¬ ((k : Int) ≤ 20) := by omega
        have hl2 : ¬ ((l.length : Int) ≤ 20) := by omega
        have d1 : decide ((k : Int) < (l.length : Int)) = true := decide_eq_true hkI
        have HF : Hid (clB l = false) := by show _ = _; unfold clB; rw [decide_eq_false (by omega)]; rfl
        clear hk21
        go_wp2
        go_ret
        exact ⟨by rw [HF.out]; rfl, HB.out⟩
      · obtain rfl : k = l.length := by omega
        have hl2 : (l.length : Int) ≤ 21 := by omega
        have HF : Hid (clB l = decide (l.length ≤ 20)) := by
          show _ = _; unfold clB
          have : (List.range l.length).all (clAt l) = true := List.all_eq_true.2 fun i hi => HK.out i (List.mem_range.1 hi)
          rw [this, Bool.and_true]
        go_wp2
        go_ret
        exact ⟨ret_bool (by rw [HF.out]; exact decide_eq_decide.2 (by omega)), HB.out⟩
end Go.Proofs.Ytmilpahggceemaa
