/- Contracts of opening, l7Opening and what tells whether an opening wins. -/
import Derived.Test.YtbaahghfjmkeoaaKdNLocks2
import Derived.Test.YtbaahghfjmkeoaaKdNear2
set_option linter.unusedVariables false
set_option linter.unusedSimpArgs false
namespace Go.KD
open Go.RowKit
def opsB (m : Mz) (L : List Int) : Bool := (opK m L L.length).isSome
def opN (m : Mz) (L : List Int) : Nat := (opK m L L.length).getD 0
theorem opK_step {m : Mz} {L : List Int} {i O : Nat} (h : opK m L i = some O) : opK m L (i + 1) = if hasI (nextL m O (L.take i)) L[i]! then some (setN O L[i]!) else none := by
  show (match opK m L i with | none => none | some O => if hasI (nextL m O (L.take i)) L[i]! then some (setN O L[i]!) else none) = _
  rw [h]
theorem ops_stop {m : Mz} {L : List Int} {i O : Nat} (hi : i < L.length) (h : opK m L i = some O) (hf : hasI (nextL m O (L.take i)) L[i]! = false) : opK m L L.length = none := by
  have h1 : opK m L (i + 1) = none := by rw [opK_step h, hf]; rfl
  have := opK_none h1 (L.length - (i + 1))
  rwa [show i + 1 + (L.length - (i + 1)) = L.length from by omega] at this
theorem next_nat {m : Mz} {O : Nat} {L : List Int} {x : Int} (h : hasI (nextL m O L) x = true) : ∃ j : Nat, x = (j : Int) ∧ j < m.doors.length := by
  rw [hasI_iff] at h
  obtain ⟨k, hk, _, _, rfl⟩ := in_nextK.1 h
  exact ⟨k, rfl, hk⟩
theorem op_len {m : Mz} (ok : MzOk m) {O : Nat} {L : List Int} (h : OpOk m O L) : L.length ≤ 30 := by
  have hp : L.Perm (mem O) := (List.perm_ext_iff_of_nodup h.nd ((Go.KD.mem_sorted O).imp fun h => by omega)).2 h.mem
  rw [hp.length_eq]
  have hO := bits_lt30 fun i hi => Nat.lt_of_lt_of_le (h.lt i hi) ok.nd
  unfold mem memN
  rw [List.length_map]
  have : (List.range 40).filter (fun i => O.testBit i) = (List.range 30).filter (fun i => O.testBit i) := by
    rw [show (40 : Nat) = 30 + 10 from rfl, List.range_add, List.filter_append]
    have : (List.map (fun x => 30 + x) (List.range 10)).filter (fun i => O.testBit i) = [] := by
      rw [List.filter_eq_nil_iff]
      intro x hx hb
      simp only [List.mem_map, List.mem_range] at hx
      obtain ⟨a, _, rfl⟩ := hx
      have := bit_lt (n := 30) hO hb
      omega
    rw [this, List.append_nil]
  rw [this]
  exact Nat.le_trans (List.length_filter_le _ _) (by simp)
theorem shl_at30 (y : Nat) (hy : y < 30) : ∃ p : Nat, Hid (p = 2 ^ y) ∧ IntKind.i64.wrap (2 ^ y) = (p : Int) ∧ p < 1073741824 := by
  refine ⟨2 ^ y, rfl, ?_, Nat.pow_lt_pow_right (n := 30) (by omega) hy⟩
  have h : 2 ^ y < 2 ^ 30 := Nat.pow_lt_pow_right (by omega) hy
  have e : ((2 ^ y : Nat) : Int) = 2 ^ y := by simp
  rw [← e]
  generalize 2 ^ y = q at h
  rw [IntKind.wrap_i64]; omega
theorem nextL_len (m : Mz) (O : Nat) (L : List Int) : (nextL m O L).length ≤ m.doors.length := nextK_len m O L _
theorem own_caps {lo hi n cap size : Nat} {w : World} {e : TypeId} {a : Option Addr} {xs : List Value} (h : Own lo hi w e size (.slice a n cap) n xs) (hn : 0 < n) : n ≤ cap ∧ cap ≤ maxLen := by
  obtain ⟨g, c, he, h1, h2⟩ := own_someD h.row hn
  cases he; exact ⟨h1, h2⟩
/-- Is the goal near? -/
def wonB (m : Mz) (O : Nat) : Bool := (nearN m O).testBit (m.keys.length - 1)
end Go.KD
namespace Go.Proofs.Ytbaahghfjmkeoaa
open Go.RowKit Go.KD
attribute [local go_sem] later_cell later_frozen
set_option maxRecDepth 100000 in
set_option maxHeartbeats 4000000 in
theorem opening_c (v : Value) (m : Mz) (aL : Option Addr) (cL : Nat) (L : List Int) (w : World) (hm : MzAt w v m) (ok : MzOk m) (hL : IC w aL L) (hLl : L.length ≤ 1048576) : Calls Try.prog 93 #[v, .slice aL L.length cL] w fun e w' =>
    e = .returned (.tuple #[.int .i64 (opN m L), .bool (opsB m L)]) ∧ Below w.heap.size w w' := by
  have hM := hm
  obtain ⟨⟨ad, cd, ak, ck, rfl, hd, hk'⟩, nd, nk⟩ := hM
  have hng : m.doors.length ≤ 30 := ok.nd
  have OK := Lib.hid ok
  clear ok
  go_enter Try.func93, Try.ntmps93
  go_wp2
  go_loopw [6, 11] (fun o i wr => ∃ k O : Nat, k ≤ L.length ∧ i = .int .i64 k ∧ o = .int .i64 O ∧ Hid (opK m L k = some O) ∧ Below (w.heap.size + 1) (w.alloc (.cells #[.int .i64 m.size, .slice ad m.doors.length cd, .slice ak m.keys.length ck] 29)) wr) (fun _ i _ => L.length - (intOf i).toNat)
  case atStart => exact ⟨0, 0, Nat.zero_le _, rfl, rfl, rfl, Below.refl _ _⟩
  case round =>
    obtain ⟨wi, rfl⟩ : ∃ wi : World, wi = wr := ⟨_, rfl⟩
    obtain ⟨k, O, hk, rfl, rfl, HK, hb⟩ := hrel
    obtain ⟨q0, q1, q2, z1⟩ := box3 hb (by omega)
    have HB := Lib.hid (below_box hb (by omega))
    have HBB := Lib.hid hb
    clear hb
    by_cases hlt : k < L.length
    · have hkI : (k : Int) < (L.length : Int) := by omega
      have HOP := Lib.hid (opK_ok OK.out k O hk HK.out)
      obtain ⟨b, off, x, rfl, HX, hbs, e0⟩ := (hL.later HB.out).at k hlt
      have hO : O < 1073741824 := bits_lt30 fun i hi => Nat.lt_of_lt_of_le (HOP.out.lt i hi) hng
      have hbz : ∀ w2, Below wi.heap.size wi w2 → wi.heap.size ≤ w2.heap.size := fun w2 h => h.size
      go_wp2_with fail
      refine (nextLocks_c _ m O (L.take k) _ (hm.later HB.out) OK.out HOP.out).mono ?_
      rintro e w2 ⟨u2, rfl, ho2, hb2⟩
      obtain ⟨a2, c2, rfl, -, hi2⟩ := ho2.ic
      have HB2 := Lib.hid hb2
      have hnl := nextL_len m O (L.take k)
      clear ho2 hb2
      go_wp2_with fail
      refine (contains_c _ _ _ (nextL m O (L.take k)) _ _ rfl hi2 (by omega)).mono ?_
      rintro e w3 ⟨rfl, rfl⟩
      clear hi2 hnl
      cases hh : hasI (nextL m O (L.take k)) x
      case false =>
        have HN : Hid (opK m L L.length = none) := ops_stop hlt HK.out (by rw [HX.out]; exact hh)
        clear hh
        go_wp2
        go_ret2
        refine ⟨?_, below_then HB.out HB2.out⟩
        unfold opN opsB
        rw [HN.out]; rfl
      case true =>
        obtain ⟨j, rfl, hj⟩ := next_nat hh
        obtain ⟨p, HP, ep, hp⟩ := shl_at30 j (by omega)
        have hj30 : (j : Int) < 30 := by omega
        have eo : bits .or .i64 (O : Int) (p : Int) = ((O ||| p : Nat) : Int) := i64_or O p (by omega) (by omega)
        have HN : Hid (opK m L (k + 1) = some (O ||| p)) := by
          show _ = _
          rw [opK_step HK.out, HX.out, hh, HP.out]
          simp [setN]
        clear hh
        go_wp2
        go_roundw
        case rel => exact ⟨k + 1, O ||| p, by omega, by go_num, rfl, HN, HBB.out.trans (HB2.out.mono (by omega))⟩
        case measure => simp [intOf]; omega
    · obtain rfl : k = L.length := by omega
      have HR : Hid (opN m L = O ∧ opsB m L = true) := by
        have := HK.out
        exact ⟨by unfold opN; rw [this]; rfl, by unfold opsB; rw [this]; rfl⟩
      go_wp2
      go_ret2
      exact ⟨by rw [HR.out.1, HR.out.2]; rfl, HB.out⟩
theorem l7NextN_c (v : Value) (m : Mz) (O : Nat) (aL : Option Addr) (cL n : Nat) (L : List Int) (w : World) (hn : n = L.length) (hm : MzAt w v m) (ok : MzOk m) (hL : IC w aL L) (hLl : L.length ≤ 40) (hop : OpOk m O L) : Calls Try.prog 56 #[v, .slice aL n cL] w fun e w' => ∃ u, e = .returned u ∧ w'.ownsRow w.heap.size 3 1 u (nextL m O L).length (ints (nextL m O L)) ∧ Below w.heap.size w w' := by
  subst hn; exact l7Next_c v m O aL cL L w hm ok hL hLl hop
set_option maxRecDepth 100000 in
set_option maxHeartbeats 4000000 in
theorem l7Opening_c (v : Value) (m : Mz) (aL : Option Addr) (cL : Nat) (L : List Int) (w : World) (hm : MzAt w v m) (ok : MzOk m) (hL : IC w aL L) (hLl : L.length ≤ 1048576) (hcap : 0 < L.length → L.length ≤ cL ∧ cL ≤ maxLen) : Calls Try.prog 94 #[v, .slice aL L.length cL] w fun e w' =>
    e = .returned (.bool (opsB m L)) ∧ Below w.heap.size w w' := by
  have hM := hm
  obtain ⟨⟨ad, cd, ak, ck, rfl, hd, hk'⟩, nd, nk⟩ := hM
  have hng : m.doors.length ≤ 30 := ok.nd
  have OK := Lib.hid ok
  have HCAP := Lib.hid hcap
  clear ok hcap
  go_enter Try.func94, Try.ntmps94
  go_wp2
  go_loopw [5] (fun i wr => ∃ k O : Nat, k ≤ L.length ∧ i = .int .i64 k ∧ Hid (opK m L k = some O) ∧ Below (w.heap.size + 1) (w.alloc (.cells #[.int .i64 m.size, .slice ad m.doors.length cd, .slice ak m.keys.length ck] 29)) wr) (fun i _ => L.length - (intOf i).toNat)
  case atStart => exact ⟨0, 0, Nat.zero_le _, rfl, rfl, Below.refl _ _⟩
  case round =>
    obtain ⟨wi, rfl⟩ : ∃ wi : World, wi = wr := ⟨_, rfl⟩
    obtain ⟨k, O, hk, rfl, HK, hb⟩ := hrel
    obtain ⟨q0, q1, q2, z1⟩ := box3 hb (by omega)
    have HB := Lib.hid (below_box hb (by omega))
    have HBB := Lib.hid hb
    clear hb
    by_cases hlt : k < L.length
    · have hkI : (k : Int) < (L.length : Int) := by omega
      obtain ⟨hcl, hcm⟩ := HCAP.out (by omega)
      unfold maxLen at hcm
      have hkc : (k : Int) ≤ (cL : Int) := by omega
      have hk0 : (0 : Int) ≤ (k : Int) := by omega
      have HOP := Lib.hid (opK_ok OK.out k O hk HK.out)
      have hLT : (L.take k).length = k := by simp; omega
      have HL30 : Hid ((L.take k).length ≤ 30) := op_len OK.out HOP.out
      obtain ⟨b, off, x, rfl, HX, hbs, e0⟩ := (hL.later HB.out).at k hlt
      have HLT : Hid (IC wi (some ⟨b, off, none⟩) (L.take k)) := by
        intro j hj
        rw [hLT] at hj
        obtain ⟨b', off', ha, hbs', hc⟩ := (hL.later HB.out) j (by omega)
        refine ⟨b', off', ha, hbs', ?_⟩
        rw [hc, getElem!_pos L j (by omega), getElem!_pos _ j (by rw [hLT]; omega), List.getElem_take]
      have HLN := Lib.hid hLT
      clear hLT
      go_wp2
      have HS : Hid (∀ W, Below wi.heap.size wi W → W.cell? ⟨w.heap.size, 0, none⟩ = some (.int .i64 m.size) ∧ W.cell? ⟨w.heap.size, 1, none⟩ = some (.slice ad m.doors.length cd) ∧ W.cell? ⟨w.heap.size, 2, none⟩ = some (.slice ak m.keys.length ck) ∧ W.cell? ⟨b, off + k, none⟩ = some (.int .i64 x)) := fun W hW => ⟨(hW.cell (p := ⟨w.heap.size, 0, none⟩) z1).trans q0, (hW.cell (p := ⟨w.heap.size, 1, none⟩) z1).trans q1, (hW.cell (p := ⟨w.heap.size, 2, none⟩) z1).trans q2, (hW.cell (p := ⟨b, off + k, none⟩) hbs).trans e0⟩
      go_region_held3 (fun W => W.cell? ⟨w.heap.size, 0, none⟩ = some (.int .i64 m.size) ∧ W.cell? ⟨w.heap.size, 1, none⟩ = some (.slice ad m.doors.length cd) ∧ W.cell? ⟨w.heap.size, 2, none⟩ = some (.slice ak m.keys.length ck) ∧ W.cell? ⟨b, off + k, none⟩ = some (.int .i64 x))
        (exact HS.out _ (by repeat (first | exact Below.refl _ _ | exact HB2.out | apply Below.drew | apply below_drewN | (refine Below.setCell ?_ (by first | omega | (simp; done) | (simp; omega) | (dsimp only; omega)) _) | (refine Below.alloc ?_ (by first | omega | (simp; done) | (simp; omega) | (dsimp only; omega)) _))))
        (first
          | (go_at_call 56; refine (l7NextN_c _ m O _ _ _ (L.take k) _ HLN.out.symm ((hm.later HB.out).later (by repeat (first | exact Below.refl _ _ | apply Below.drew | apply below_drewN | (refine Below.setCell ?_ (by first | omega | (simp; done) | (simp; omega) | (dsimp only; omega)) _) | (refine Below.alloc ?_ (by first | omega | (simp; done) | (simp; omega) | (dsimp only; omega)) _)))) OK.out (HLT.out.later (by repeat (first | exact Below.refl _ _ | apply Below.drew | apply below_drewN | (refine Below.setCell ?_ (by first | omega | (simp; done) | (simp; omega) | (dsimp only; omega)) _) | (refine Below.alloc ?_ (by first | omega | (simp; done) | (simp; omega) | (dsimp only; omega)) _)))) (by have := HL30.out; omega) HOP.out).mono ?_; rintro e w2 ⟨u2, rfl, ho2, hb2⟩; obtain ⟨a2, c2, rfl, -, hi2⟩ := (Own.of ho2).ic; have HB2 : Hid (Below wi.heap.size wi w2) := (Below.refl _ _).drew.trans hb2; clear ho2 hb2)
          | (go_at_call 88; refine (l1Has_c _ _ _ (nextL m O (L.take k)) _ _ rfl hi2 (by have := nextL_len m O (L.take k); omega)).mono ?_; rintro e w3 ⟨rfl, rfl⟩))
      clear hi2 HS
      cases hh : hasI (nextL m O (L.take k)) x
      case false =>
        have HN : Hid (opK m L L.length = none) := ops_stop hlt HK.out (by rw [HX.out]; exact hh)
        clear hh
        go_wp2
        go_ret
        refine ⟨?_, below_then HB.out HB2.out⟩
        unfold opsB
        rw [HN.out]; rfl
      case true =>
        obtain ⟨j, rfl, hj⟩ := next_nat hh
        have HN : Hid (opK m L (k + 1) = some (setN O j)) := by
          show _ = _
          rw [opK_step HK.out, HX.out, hh]
          simp
        clear hh
        go_wp2
        go_roundw
        case rel => exact ⟨k + 1, setN O j, by omega, by go_num, HN, HBB.out.trans (HB2.out.mono (by omega))⟩
        case measure => simp [intOf]; omega
    · obtain rfl : k = L.length := by omega
      have HR : Hid (opsB m L = true) := by
        have := HK.out
        unfold opsB; rw [this]; rfl
      go_wp2
      go_ret
      exact ⟨by rw [HR.out]; rfl, HB.out⟩
end Go.Proofs.Ytbaahghfjmkeoaa
