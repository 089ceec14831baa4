/- The reference's rows in order: spec.l5Before, spec.l5Insert. -/
import Derived.Test.YtldogbahbjompaaKdSets0
import Derived.Test.YtldogbahbjompaaKdPut
import Derived.Test.YtldogbahbjompaaKdTab
import Derived.Deep.DeepCutAuto
set_option linter.unusedVariables false
set_option linter.unusedSimpArgs false
namespace Go.KD
open Go.RowKit
theorem cmpR_sameB {a b : List Int} : ∀ k, k ≤ a.length → k ≤ b.length → a.take k = b.take k → cmpR a b = cmpR (a.drop k) (b.drop k)
  | 0, _, _, _ => rfl
  | k + 1, h1, h2, h => by
    cases a with
    | nil => simp at h1
    | cons x a =>
      cases b with
      | nil => simp at h2
      | cons y b =>
        simp only [List.take_succ_cons, List.cons.injEq] at h
        obtain ⟨rfl, h⟩ := h
        have ih := cmpR_sameB (a := a) (b := b) k (by simpa using h1) (by simpa using h2) h
        simp only [cmpR, List.drop_succ_cons]
        rw [if_pos (cmpI_zero.2 rfl), ih]
theorem ltL_len {a b : List Int} (h : a.length ≠ b.length) : ltL a b = decide (a.length < b.length) := by
  unfold ltL
  rw [cmpLR_eq, if_neg (fun e => h (by have := cmpI_zero.1 e; omega)), decide_eq_decide, cmpI_neg]
  omega
theorem ltL_at {a b : List Int} {k : Nat} (hl : a.length = b.length) (h1 : k < a.length) (h : a.take k = b.take k) (hne : a[k]! ≠ b[k]!) : ltL a b = decide (a[k]! < b[k]!) := by
  have e : cmpLR a b = cmpI a[k]! b[k]! := by
    rw [cmpLR_eq, if_pos (cmpI_zero.2 (by omega)), cmpR_sameB k (by omega) (by omega) h, List.drop_eq_getElem_cons h1, List.drop_eq_getElem_cons (by omega : k < b.length)]
    simp only [cmpR]
    rw [← getElem!_pos a k h1, ← getElem!_pos b k (by omega), if_neg (fun e => hne (cmpI_zero.1 e))]
  unfold ltL
  rw [decide_eq_decide, e, cmpI_neg]
theorem ltL_end {a b : List Int} (hl : a.length = b.length) (h : a.take a.length = b.take a.length) : ltL a b = false := by
  rw [List.take_length, hl, List.take_length] at h
  rw [h]; exact ltL_irrefl b
def CV (W : World) (b off : Nat) (vs : List Value) : Prop := ∀ j u, vs[j]? = some u → W.cell? ((⟨b, off, none⟩ : Addr).add j) = some u
theorem CV.later {W W' : World} {b off : Nat} {vs : List Value} (h : CV W b off vs) (hb : b < W.heap.size) (hB : Below W.heap.size W W') : CV W' b off vs := fun j u hu => by
  have := h j u hu
  rw [add_at rfl] at this ⊢
  rw [hB.cell (p := ⟨b, off + j, none⟩) hb]; exact this
theorem cv_take {W : World} {b off : Nat} {vs : List Value} (h : CV W b off vs) (k : Nat) : ∀ j u, (vs.take k)[j]? = some u → W.cell? ((⟨b, off, none⟩ : Addr).add j) = some u := by
  intro j u hu
  rw [List.getElem?_take] at hu
  split at hu
  · exact h j u hu
  · cases hu
theorem cv_drop {W : World} {b off : Nat} {vs : List Value} (h : CV W b off vs) (k : Nat) : ∀ j u, (vs.drop k)[j]? = some u → W.cell? ((⟨b, off + k, none⟩ : Addr).add j) = some u := by
  intro j u hu
  rw [List.getElem?_drop] at hu
  have := h _ u hu
  rw [add_at rfl] at this ⊢
  rw [Nat.add_assoc]; exact this
theorem own_someQ3 {w : World} {base : Nat} {e : TypeId} {size n : Nat} {v : Value} {xs : List Value} (h : w.ownsRow base e size v n xs) (hn : 0 < n) : ∃ g c, v = .slice (some ⟨g, 0, none⟩) n c ∧ n ≤ c ∧ c ≤ maxLen := by
  rcases h.2 with ⟨_, h0⟩ | ⟨g, cap, cur, hv, _, _, h1, h2, _⟩
  · omega
  · exact ⟨g, cap, hv, h1, h2⟩
theorem put_endR {w3 : World} {base : Nat} {e : TypeId} {v3 v : Value} {vs : List Value} {n k : Nat} (hk : k ≤ n) (hl : vs.length = n)
    (h : w3.ownsRow base e 1 v3 (0 + k + 1 + (n - k)) ([] ++ vs.take k ++ [v] ++ vs.drop k)) :
    ∃ g c', v3 = .slice (some ⟨g, 0, none⟩) (n + 1) c' ∧ CV w3 g 0 (vs.take k ++ v :: vs.drop k) ∧ g < w3.heap.size ∧ n + 1 ≤ c' ∧ c' ≤ maxLen := by
  have e1 : 0 + k + 1 + (n - k) = n + 1 := by omega
  have e2 : [] ++ vs.take k ++ [v] ++ vs.drop k = vs.take k ++ v :: vs.drop k := by simp
  rw [e1, e2] at h
  have ho : Own base w3.heap.size w3 e 1 v3 (n + 1) (vs.take k ++ v :: vs.drop k) := Own.of h
  obtain ⟨a, c, rfl, hm, hj⟩ := ho.form
  obtain ⟨g, rfl, -, -, hgs, -, -⟩ := hj 0 (by omega)
  obtain ⟨g2, c2, hv, hc1, hc2⟩ := own_someQ3 h (by omega)
  cases hv
  refine ⟨g, c, rfl, fun j u hu => ?_, hgs, hc1, hc2⟩
  have hjl : j < (vs.take k ++ v :: vs.drop k).length := by
    rcases Nat.lt_or_ge j (vs.take k ++ v :: vs.drop k).length with h | h
    · exact h
    · rw [List.getElem?_eq_none h] at hu; cases hu
  have hle : (vs.take k ++ v :: vs.drop k).length = (n + 1) * 1 := ho.size
  obtain ⟨g3, e3, -, -, -, hc, -⟩ := hj j (by omega)
  cases e3
  rw [add_at rfl, Nat.zero_add, hc]; exact hu
/-- Rows with the values that they lie in. -/
def VL (W : World) (P : List (Value × List Int)) : Prop := ∀ p ∈ P, ∃ a c, p.1 = .slice a p.2.length c ∧ IC W a p.2 ∧ p.2.length ≤ 1000000
theorem VL.later {W W' : World} {P : List (Value × List Int)} (h : VL W P) (hb : Below W.heap.size W W') : VL W' P := fun p hp => by
  obtain ⟨a, c, h1, h2, h3⟩ := h p hp
  exact ⟨a, c, h1, h2.later hb, h3⟩
def insPk (P : List (Value × List Int)) (p : Value × List Int) (k : Nat) : List (Value × List Int) := P.take k ++ p :: P.drop k
def insP (P : List (Value × List Int)) (p : Value × List Int) : List (Value × List Int) := insPk P p (insAt p.2 (P.map (·.2)) P.length)
theorem insP_len (P : List (Value × List Int)) (p : Value × List Int) : (insP P p).length = P.length + 1 := by
  have := insAt_le p.2 (P.map (·.2)) P.length
  unfold insP insPk
  rw [List.length_append, List.length_take, List.length_cons, List.length_drop]; omega
theorem insP_fst (P : List (Value × List Int)) (p : Value × List Int) (k : Nat) : (insPk P p k).map (·.1) = (P.map (·.1)).take k ++ p.1 :: (P.map (·.1)).drop k := by
  unfold insPk; rw [List.map_append, List.map_cons, List.map_take, List.map_drop]
theorem insP_snd (P : List (Value × List Int)) (p : Value × List Int) : (insP P p).map (·.2) = insL (P.map (·.2)) p.2 := by
  unfold insP insPk insL; rw [List.map_append, List.map_cons, List.map_take, List.map_drop, List.length_map]
theorem VL.ins {W : World} {P : List (Value × List Int)} {p : Value × List Int} (h : VL W P) (hp : ∃ a c, p.1 = .slice a p.2.length c ∧ IC W a p.2 ∧ p.2.length ≤ 1000000) : VL W (insP P p) := by
  intro q hq
  unfold insP insPk at hq
  rw [List.mem_append, List.mem_cons] at hq
  rcases hq with hq | rfl | hq
  · exact h q (List.mem_of_mem_take hq)
  · exact hp
  · exact h q (List.mem_of_mem_drop hq)
theorem VL.tb {W : World} {P : List (Value × List Int)} {b : Nat} (h : VL W P) (hb : b < W.heap.size) (hv : CV W b 0 (P.map (·.1))) : TbAt W (some ⟨b, 0, none⟩) (P.map (·.2)) := by
  intro k hk
  rw [List.length_map] at hk
  obtain ⟨a, c, h1, h2, h3⟩ := h P[k] (List.getElem_mem hk)
  have e2 : (P.map (·.2))[k]! = P[k].2 := by rw [getElem!_pos _ k (by simpa using hk), List.getElem_map]
  have e1 : (P.map (·.1))[k]? = some P[k].1 := by rw [List.getElem?_map, List.getElem?_eq_getElem hk]; rfl
  have hc := hv k _ e1
  rw [add_at rfl, h1] at hc
  rw [e2]
  exact ⟨b, 0, a, c, rfl, hb, hc, h2⟩
end Go.KD
namespace Go.Proofs.Ytldogbahbjompaa
open Go.RowKit Go.KD
attribute [local go_sem] later_cell later_frozen
theorem infoSt : (Try.prog.info? 23).map (fun i => (i.zero, i.size, i.bytes)) = some (some (.slice none 0 0), 1, 24) := by kernel_rfl
set_option maxHeartbeats 2000000 in
theorem l5Before_c (a b : Option Addr) (ca cb : Nat) (A B : List Int) (w : World) (hA : IC w a A) (hB : IC w b B) (lA : A.length ≤ 1000000) (lB : B.length ≤ 1000000) :
    Calls Try.prog 119 #[.slice a A.length ca, .slice b B.length cb] w fun e w' => e = .returned (.bool (ltL A B)) ∧ Below w.heap.size w w' := by
  have HA := Lib.hid hA
  have HB := Lib.hid hB
  clear hA hB
  obtain ⟨na, hna⟩ : ∃ na, na = A.length := ⟨_, rfl⟩
  obtain ⟨nb, hnb⟩ : ∃ nb, nb = B.length := ⟨_, rfl⟩
  rw [← hna] at lA ⊢
  rw [← hnb] at lB ⊢
  by_cases hl : na = nb
  · subst hl
    have hq : ((na : Int) != (na : Int)) = false := by simp
    have HNA := Lib.hid hna
    have HNB := Lib.hid hnb
    clear hna hnb
    go_enter Try.func119, Try.ntmps119
    go_wp2
    clear hq
    go_loopw [5] (fun iv wr => ∃ k : Nat, iv = .int .i64 k ∧ k ≤ na ∧ Hid (A.take k = B.take k) ∧ Below w.heap.size w wr) (fun iv _ => na - (intOf iv).toNat)
    case atStart => exact ⟨0, rfl, Nat.zero_le _, rfl, Below.refl _ _⟩
    case round =>
      obtain ⟨k, rfl, hk, HT, hbr⟩ := hrel
      have hzr := hbr.size
      by_cases hlt : k < na
      · have hkI : (k : Int) < (na : Int) := by omega
        obtain ⟨b1, o1, x, rfl, HX, hbs1, e1⟩ := (HA.out.later hbr).at k (by rw [← HNA.out]; exact hlt)
        obtain ⟨b2, o2, y, rfl, HY, hbs2, e2⟩ := (HB.out.later hbr).at k (by rw [← HNB.out]; exact hlt)
        by_cases hxy : x = y
        · have HN : Hid (A.take (k + 1) = B.take (k + 1)) := by
            show _ = _
            rw [take_snoc (by rw [← HNA.out]; exact hlt), take_snoc (by rw [← HNB.out]; exact hlt), HT.out, HX.out, HY.out, hxy]
          subst hxy
          have hq : (x != x) = false := by simp
          go_wp2_with fail
          refine wp_region_later (wr.heap.size) (by kernel_rfl) (by kernel_rfl) ?_
          repeat (first | go_big_quiet_skip | (go_big_quiet_want; go_big_quiet_op; go_big_quiet_on))
          refine wpQuiet_nil ?_
          rintro w9 ⟨⟨w9', hb9⟩, h9⟩
          change w9 = w9' at h9
          subst h9
          have HB9 : Hid (Below w.heap.size w w9) := hbr.trans (hb9.mono hzr)
          clear hb9
          go_wp2_with fail
          go_roundw
          case rel => exact ⟨k + 1, by go_num, by omega, HN, HB9.out⟩
          case measure => simp [intOf]; omega
        · have HR : Hid (ltL A B = decide (x < y)) := by
            show _ = _
            rw [ltL_at (by rw [← HNA.out, HNB.out]) (by rw [← HNA.out]; exact hlt) HT.out (by rw [HX.out, HY.out]; exact hxy), HX.out, HY.out]
          have hq : (x != y) = true := by simpa using hxy
          go_wp2_with fail
          refine wp_region_later (wr.heap.size) (by kernel_rfl) (by kernel_rfl) ?_
          repeat (first | go_big_quiet_skip | (go_big_quiet_want; go_big_quiet_op; go_big_quiet_on))
          refine wpQuiet_nil ?_
          rintro w9 ⟨⟨w9', hb9⟩, h9⟩
          change w9 = w9' at h9
          subst h9
          have HB9 : Hid (Below w.heap.size w w9) := hbr.trans (hb9.mono hzr)
          have f1 := (hb9.cell (p := ⟨b1, o1 + k, none⟩) hbs1).trans e1
          have f2 := (hb9.cell (p := ⟨b2, o2 + k, none⟩) hbs2).trans e2
          have hz9 := hb9.size
          have hbs3 : b1 < w9.heap.size := by omega
          have hbs4 : b2 < w9.heap.size := by omega
          clear hb9 e1 e2
          go_wp2_with fail
          refine wp_region_later (w9.heap.size) (by kernel_rfl) (by kernel_rfl) ?_
          repeat (first | go_big_quiet_skip | (go_big_quiet_want; go_big_quiet_op; go_big_quiet_on))
          refine wpQuiet_nil ?_
          rintro w8 ⟨⟨w8', hb8⟩, h8⟩
          change w8 = w8' at h8
          subst h8
          have HB8 : Hid (Below w.heap.size w w8) := HB9.out.trans (hb8.mono HB9.out.size)
          clear hb8
          go_wp2
          go_ret
          exact ⟨ret_bool HR.out.symm, HB8.out⟩
      · obtain rfl : k = na := by omega
        have HR : Hid (ltL A B = false) := by
          have h1 := HT.out
          rw [HNA.out] at h1
          exact ltL_end (by rw [← HNA.out, HNB.out]) h1
        go_wp2
        go_ret
        exact ⟨ret_bool HR.out.symm, hbr⟩
  · have HR : Hid (ltL A B = decide (na < nb)) := by
      show _ = _
      rw [ltL_len (by omega), hna, hnb]
    have hq : ((na : Int) != (nb : Int)) = true := by simp; omega
    clear hna hnb
    go_enter Try.func119, Try.ntmps119
    go_wp2
    go_ret
    exact ⟨ret_bool (by rw [HR.out]), Below.refl _ _⟩
set_option maxHeartbeats 8000000 in
theorem l5Insert_c (b0 off0 cap n : Nat) (P : List (Value × List Int)) (L : List Int) (ar : Option Addr) (cr nl : Nat) (w : World) (hn : P.length = n) (hnl : L.length = nl) (hb0 : b0 < w.heap.size) (hV : CV w b0 off0 (P.map (·.1))) (hP : VL w P) (hL : IC w ar L) (hll : nl ≤ 1000000) (hcap : n ≤ cap) (hc63 : cap ≤ maxLen) (hn4 : n ≤ 4096) :
    Calls Try.prog 79 #[.slice (some ⟨b0, off0, none⟩) n cap, .slice ar nl cr] w fun e w' => ∃ b' c', e = .returned (.slice (some ⟨b', 0, none⟩) (n + 1) c') ∧ CV w' b' 0 ((insP P (.slice ar nl cr, L)).map (·.1)) ∧ b' < w'.heap.size ∧ n + 1 ≤ c' ∧ c' ≤ maxLen ∧ Below w.heap.size w w' := by
  obtain ⟨s0, si, sz0, sz1, sz2⟩ := info_parts infoSt
  have hc2 : cap ≤ 9223372036854775807 := by unfold maxLen at hc63; omega
  obtain ⟨vs, hvs⟩ : ∃ vs, vs = P.map (·.1) := ⟨_, rfl⟩
  obtain ⟨Ls, hLs⟩ : ∃ Ls, Ls = P.map (·.2) := ⟨_, rfl⟩
  have HVL : Hid (vs.length = n) := by rw [hvs]; show _ = _; rw [List.length_map, hn]
  have HE : Hid ((insP P (.slice ar nl cr, L)).map (·.1) = vs.take (insAt L Ls n) ++ .slice ar nl cr :: vs.drop (insAt L Ls n)) := by
    show _ = _
    unfold insP
    rw [insP_fst, hvs, hLs, hn]
  have HO1 : Hid (∀ u ∈ vs, u.oneCell' = true) := by
    intro u hu
    rw [hvs, List.mem_map] at hu
    obtain ⟨p, hp, rfl⟩ := hu
    obtain ⟨a, c, h1, -, -⟩ := hP p hp
    rw [h1]; rfl
  have HAT : Hid (∀ k, k < n → ∀ W, Below w.heap.size w W → ∃ a c m, W.cell? ⟨b0, off0 + k, none⟩ = some (.slice a m c) ∧ IC W a Ls[k]! ∧ Hid (m = (Ls[k]!).length) ∧ m ≤ 1000000) := by
    intro k hk W hW
    obtain ⟨a, c, h1, h2, h3⟩ := hP (P[k]'(by omega)) (List.getElem_mem _)
    have e2 : Ls[k]! = (P[k]'(by omega)).2 := by rw [hLs, getElem!_pos _ k (by rw [List.length_map]; omega), List.getElem_map]
    have e1 : (P.map (·.1))[k]? = some (P[k]'(by omega)).1 := by rw [List.getElem?_map, List.getElem?_eq_getElem (by omega)]; rfl
    have hc := hV k _ e1
    rw [add_at rfl, h1] at hc
    refine ⟨a, c, _, (hW.cell (p := ⟨b0, off0 + k, none⟩) hb0).trans hc, ?_, ?_, h3⟩
    · rw [e2]; exact h2.later hW
    · show _ = _; rw [e2]
  have HLL := Lib.hid hL
  have HV : Hid (CV w b0 off0 vs) := by rw [hvs]; exact hV
  have HNL := Lib.hid hnl
  rw [HE.out]
  clear hP hV hL hvs hLs hn hnl
  go_enter Try.func79, Try.ntmps79
  go_wp2
  go_loopw [5] (fun kv wr => ∃ k : Nat, kv = .int .i64 k ∧ k ≤ n ∧ Hid (insAt L Ls n = insAt L Ls k) ∧ Hid (Below w.heap.size w wr)) (fun kv _ => (intOf kv).toNat)
  case atStart => exact ⟨n, rfl, Nat.le_refl _, rfl, Below.refl _ _⟩
  case round =>
    obtain ⟨wo, rfl⟩ : ∃ wo : World, wo = wr := ⟨_, rfl⟩
    obtain ⟨k, rfl, hk, HK, HB⟩ := hrel
    have hz0 : w.heap.size ≤ wo.heap.size := HB.out.size
    have hbo : b0 < wo.heap.size := by omega
    have HV : Hid (CV wo b0 off0 vs) := HV.out.later hb0 HB.out
    by_cases hgo : 0 < k ∧ ltL L Ls[k - 1]! = true
    · obtain ⟨h0, hlt⟩ := hgo
      obtain ⟨q, rfl⟩ : ∃ q, k = q + 1 := ⟨k - 1, by omega⟩
      rw [Nat.add_sub_cancel] at hlt
      have HK2 : Hid (insAt L Ls n = insAt L Ls q) := by
        show _ = _
        rw [HK.out, insAt, if_pos hlt]
      obtain ⟨a2, c2, m2, e2, hi2, HM2, hm2⟩ := HAT.out q (by omega) wo HB.out
      have hsub : ((q + 1 : Nat) : Int) - 1 = (q : Int) := by omega
      have hgt : decide ((0 : Int) < ((q + 1 : Nat) : Int)) = true := by simp <;> omega
      have HBF : Hid (∀ W, Below wo.heap.size wo W → Calls Try.prog 119 #[.slice ar nl cr, .slice a2 m2 c2] W fun e w' => e = .returned (.bool true) ∧ Below W.heap.size W w') := by
        intro W hW
        have h1 := l5Before_c ar a2 cr c2 L Ls[q]! W ((HLL.out.later HB.out).later hW) (hi2.later hW) (by rw [HNL.out]; exact hll) (by rw [← HM2.out]; exact hm2)
        rw [HNL.out, ← HM2.out, hlt] at h1
        exact h1
      clear hi2 hlt
      go_wp2_with (go_at_call 119; refine (HBF.out _ (by (repeat (first | exact Below.refl _ _ | apply Below.drew | apply below_drewN | (refine Below.setCell ?_ (by first | omega | (simp; done) | (simp; omega) | (dsimp only; omega)) _) | (refine Below.alloc ?_ (by first | omega | (simp; done) | (simp; omega) | (dsimp only; omega)) _))))).mono ?_; rintro e w1 ⟨rfl, hb1⟩; have HB1 : Hid (Below wo.heap.size wo w1) := below_then (by (repeat (first | exact Below.refl _ _ | apply Below.drew | apply below_drewN | (refine Below.setCell ?_ (by first | omega | (simp; done) | (simp; omega) | (dsimp only; omega)) _) | (refine Below.alloc ?_ (by first | omega | (simp; done) | (simp; omega) | (dsimp only; omega)) _)))) hb1; clear hb1)
      go_roundw
      case rel => exact ⟨q, by go_num, by omega, HK2, HB.out.trans (HB1.out.mono hz0)⟩
      case measure => simp [intOf] <;> omega
    · have HEK : Hid (insAt L Ls n = k) := by
        by_cases h0 : 0 < k
        · have hlt : ltL L Ls[k - 1]! = false := by
            cases h : ltL L Ls[k - 1]!
            · rfl
            · exact absurd ⟨h0, h⟩ hgo
          obtain ⟨q, rfl⟩ : ∃ q, k = q + 1 := ⟨k - 1, by omega⟩
          rw [Nat.add_sub_cancel] at hlt
          show _ = _
          rw [HK.out, insAt, hlt]; rfl
        · obtain rfl : k = 0 := by omega
          exact HK.out
      have hkc : (k : Int) ≤ (cap : Int) := by omega
      have hkl : (k : Int) ≤ (n : Int) := by omega
      have hlc : (n : Int) ≤ (cap : Int) := by omega
      have hk0 : (0 : Int) ≤ (k : Int) := by omega
      have HP4 : Hid (∀ w1, Below wo.heap.size wo w1 → ∀ R : Prop, True) := fun _ _ _ => trivial
      clear HP4
      have hvl := HVL.out
      by_cases h0 : 0 < k
      · obtain ⟨q, hq⟩ : ∃ q, k = q + 1 := ⟨k - 1, by omega⟩
        have hqn : q < n := by omega
        obtain ⟨a2, c2, m2, e2, hi2, HM2, hm2⟩ := HAT.out q hqn wo HB.out
        have hsub : (k : Int) - 1 = (q : Int) := by omega
        have hqI : (q : Int) < (n : Int) := by omega
        have hgt : (0 : Int) < (k : Int) := by omega
        have HBF : Hid (∀ W, Below wo.heap.size wo W → Calls Try.prog 119 #[.slice ar nl cr, .slice a2 m2 c2] W fun e w' => e = .returned (.bool false) ∧ Below W.heap.size W w') := by
          intro W hW
          have hlt : ltL L Ls[q]! = false := by
            cases h : ltL L Ls[q]!
            · rfl
            · exact absurd ⟨h0, by rw [show k - 1 = q by omega]; exact h⟩ hgo
          have h1 := l5Before_c ar a2 cr c2 L Ls[q]! W ((HLL.out.later HB.out).later hW) (hi2.later hW) (by rw [HNL.out]; exact hll) (by rw [← HM2.out]; exact hm2)
          rw [HNL.out, ← HM2.out, hlt] at h1
          exact h1
        clear hi2 hgo hq
        go_upto_region 4 with (go_at_call 119; refine (HBF.out _ (by (repeat (first | exact Below.refl _ _ | apply Below.drew | apply below_drewN | (refine Below.setCell ?_ (by first | omega | (simp; done) | (simp; omega) | (dsimp only; omega)) _) | (refine Below.alloc ?_ (by first | omega | (simp; done) | (simp; omega) | (dsimp only; omega)) _))))).mono ?_; rintro e w1 ⟨rfl, hb1⟩; have HB1 : Hid (Below wo.heap.size wo w1) := below_then (by (repeat (first | exact Below.refl _ _ | apply Below.drew | apply below_drewN | (refine Below.setCell ?_ (by first | omega | (simp; done) | (simp; omega) | (dsimp only; omega)) _) | (refine Below.alloc ?_ (by first | omega | (simp; done) | (simp; omega) | (dsimp only; omega)) _)))) hb1; clear hb1)
        have hz1 := HB1.out.size
        have hb01 : b0 < w1.heap.size := by omega
        have HV1 : Hid (CV w1 b0 off0 vs) := HV.out.later hbo HB1.out
        have HBw : Hid (Below w.heap.size w w1) := HB.out.trans (HB1.out.mono hz0)
        have hz2 := HBw.out.size
        by_cases hck : cap = k
        · go_region_law (first
            | (refine step_append_below _ w1 w1.heap.size (by (repeat (first | exact Below.refl _ _ | apply Below.drew | apply below_drewN | (refine Below.setCell ?_ (by first | omega | (simp; done) | (simp; omega) | (dsimp only; omega)) _) | (refine Below.alloc ?_ (by first | omega | (simp; done) | (simp; omega) | (dsimp only; omega)) _)))) (by rfl) _ _ 44 (by rfl) 23 s0 (.slice none 0 0) 1 24 Try.underlying44 si sz0 sz1 sz2 rfl (by decide) (.slice (some ⟨_, 0, none⟩) 0 0) 0 [] (by rfl) (own_empty (by first | exact heap1 w1 _ | exact heap2 w1 _ _ | exact heap3 w1 _ _) (by simp)) ⟨b0, off0, none⟩ k _ (vs.take k) (by rfl) (by simp; omega) (cv_take (HV1.out.later hb01 (by (repeat (first | exact Below.refl _ _ | apply Below.drew | apply below_drewN | (refine Below.setCell ?_ (by first | omega | (simp; done) | (simp; omega) | (dsimp only; omega)) _) | (refine Below.alloc ?_ (by first | omega | (simp; done) | (simp; omega) | (dsimp only; omega)) _))))) k) (fun u hu => HO1.out u (List.mem_of_mem_take hu)) (by unfold maxLen; omega) (by omega) (by simp; try omega) ?_; intro v1 wA ho1 hg1 hb1)
            | (refine step_append_below _ w1 w1.heap.size (hb1.alloc hb1.size _) (by rfl) _ _ 44 (by rfl) 23 s0 (.slice none 0 0) 1 24 Try.underlying44 si sz0 sz1 sz2 rfl (by decide) _ _ _ (by rfl) (ho1.alloc _) ⟨_, 0, none⟩ 1 1 [.slice ar nl cr] (by rfl) (by rfl) (cell_one_new _ _ _) (by simp [Value.oneCell']) (by unfold maxLen; omega) (by omega) (by have := hb1.size; simp; omega) ?_; intro v2 wB ho2 hg2 hb2)
            | (refine step_append_below _ w1 w1.heap.size hb1 (by rfl) _ _ 44 (by rfl) 23 s0 (.slice none 0 0) 1 24 Try.underlying44 si sz0 sz1 sz2 rfl (by decide) _ _ _ (by rfl) ho1 ⟨_, 0, none⟩ 1 1 [.slice ar nl cr] (by rfl) (by rfl) (by intro j u hu; rcases j with _ | j; (rw [add_at rfl, hg1.cell_far ⟨_, _, none⟩ (by simp; try omega) (by simp [Value.ownBlock]; try omega)]; simp at hu; subst hu; simp [go_sem]); (simp at hu)) (by simp [Value.oneCell']) (by unfold maxLen; omega) (by omega) hb1.size ?_; intro v2 wB ho2 hg2 hb2)
            | (refine step_append_below _ w1 w1.heap.size hb2 (by rfl) _ _ 44 (by rfl) 23 s0 (.slice none 0 0) 1 24 Try.underlying44 si sz0 sz1 sz2 rfl (by decide) _ _ _ (by rfl) ho2 ⟨b0, off0, none⟩ (n - k) _ (vs.drop k) (by rfl) (by simp; omega) (by rw [List.drop_of_length_le (by omega)]; intro j u hu; simp at hu) (fun u hu => HO1.out u (List.mem_of_mem_drop hu)) (by unfold maxLen; omega) (by omega) hb2.size ?_; intro v3 wC ho3 hg3 hb3))
          all_goals
            obtain ⟨g3, c3, rfl, hi3, hs3, hr3, hm3⟩ := put_endR hk HVL.out ho3
            have HI := Lib.hid hi3; clear hi3
            clear ho3 ho2 ho1 hg1 hg2 hg3
            go_wp2
            go_ret
            exact ⟨g3, c3, rfl, by rw [HEK.out]; exact HI.out, hs3, hr3, hm3, HBw.out.trans (hb3.mono hz2)⟩

        · go_region_law (first
            | (refine step_append_below _ w1 w1.heap.size (by (repeat (first | exact Below.refl _ _ | apply Below.drew | apply below_drewN | (refine Below.setCell ?_ (by first | omega | (simp; done) | (simp; omega) | (dsimp only; omega)) _) | (refine Below.alloc ?_ (by first | omega | (simp; done) | (simp; omega) | (dsimp only; omega)) _)))) (by rfl) _ _ 44 (by rfl) 23 s0 (.slice none 0 0) 1 24 Try.underlying44 si sz0 sz1 sz2 rfl (by decide) (.slice (some ⟨_, 0, none⟩) 0 0) 0 [] (by rfl) (own_empty (by first | exact heap1 w1 _ | exact heap2 w1 _ _ | exact heap3 w1 _ _) (by simp)) ⟨b0, off0, none⟩ k _ (vs.take k) (by rfl) (by simp; omega) (cv_take (HV1.out.later hb01 (by (repeat (first | exact Below.refl _ _ | apply Below.drew | apply below_drewN | (refine Below.setCell ?_ (by first | omega | (simp; done) | (simp; omega) | (dsimp only; omega)) _) | (refine Below.alloc ?_ (by first | omega | (simp; done) | (simp; omega) | (dsimp only; omega)) _))))) k) (fun u hu => HO1.out u (List.mem_of_mem_take hu)) (by unfold maxLen; omega) (by omega) (by simp; try omega) ?_; intro v1 wA ho1 hg1 hb1)
            | (refine step_append_below _ w1 w1.heap.size (hb1.alloc hb1.size _) (by rfl) _ _ 44 (by rfl) 23 s0 (.slice none 0 0) 1 24 Try.underlying44 si sz0 sz1 sz2 rfl (by decide) _ _ _ (by rfl) (ho1.alloc _) ⟨_, 0, none⟩ 1 1 [.slice ar nl cr] (by rfl) (by rfl) (cell_one_new _ _ _) (by simp [Value.oneCell']) (by unfold maxLen; omega) (by omega) (by have := hb1.size; simp; omega) ?_; intro v2 wB ho2 hg2 hb2)
            | (refine step_append_below _ w1 w1.heap.size hb1 (by rfl) _ _ 44 (by rfl) 23 s0 (.slice none 0 0) 1 24 Try.underlying44 si sz0 sz1 sz2 rfl (by decide) _ _ _ (by rfl) ho1 ⟨_, 0, none⟩ 1 1 [.slice ar nl cr] (by rfl) (by rfl) (by intro j u hu; rcases j with _ | j; (rw [add_at rfl, hg1.cell_far ⟨_, _, none⟩ (by simp; try omega) (by simp [Value.ownBlock]; try omega)]; simp at hu; subst hu; simp [go_sem]); (simp at hu)) (by simp [Value.oneCell']) (by unfold maxLen; omega) (by omega) hb1.size ?_; intro v2 wB ho2 hg2 hb2)
            | (refine step_append_below _ w1 w1.heap.size hb2 (by rfl) _ _ 44 (by rfl) 23 s0 (.slice none 0 0) 1 24 Try.underlying44 si sz0 sz1 sz2 rfl (by decide) _ _ _ (by rfl) ho2 ⟨b0, off0 + k, none⟩ (n - k) _ (vs.drop k) (by rfl) (by simp; omega) (cv_drop (HV1.out.later hb01 hb2) k) (fun u hu => HO1.out u (List.mem_of_mem_drop hu)) (by unfold maxLen; omega) (by omega) hb2.size ?_; intro v3 wC ho3 hg3 hb3))
          all_goals
            obtain ⟨g3, c3, rfl, hi3, hs3, hr3, hm3⟩ := put_endR hk HVL.out ho3
            have HI := Lib.hid hi3; clear hi3
            clear ho3 ho2 ho1 hg1 hg2 hg3
            go_wp2
            go_ret
            exact ⟨g3, c3, rfl, by rw [HEK.out]; exact HI.out, hs3, hr3, hm3, HBw.out.trans (hb3.mono hz2)⟩

      · have hgt : decide ((0 : Int) < (k : Int)) = false := by simp; omega
        have hgt2 : ¬ 0 < k := h0
        have hgt3 : decide (0 < k) = false := by simp; omega
        clear hgo
        go_upto_region 4 with fail
        have HV1 : Hid (CV wo b0 off0 vs) := HV
        have HBw : Hid (Below w.heap.size w wo) := HB
        have hz2 := HBw.out.size
        have hb01 : b0 < wo.heap.size := by omega
        by_cases hck : cap = k
        · go_region_law (first
            | (refine step_append_below _ wo wo.heap.size (by (repeat (first | exact Below.refl _ _ | apply Below.drew | apply below_drewN | (refine Below.setCell ?_ (by first | omega | (simp; done) | (simp; omega) | (dsimp only; omega)) _) | (refine Below.alloc ?_ (by first | omega | (simp; done) | (simp; omega) | (dsimp only; omega)) _)))) (by rfl) _ _ 44 (by rfl) 23 s0 (.slice none 0 0) 1 24 Try.underlying44 si sz0 sz1 sz2 rfl (by decide) (.slice (some ⟨_, 0, none⟩) 0 0) 0 [] (by rfl) (own_empty (by first | exact heap1 wo _ | exact heap2 wo _ _ | exact heap3 wo _ _) (by simp)) ⟨b0, off0, none⟩ k _ (vs.take k) (by rfl) (by simp; omega) (cv_take (HV1.out.later hb01 (by (repeat (first | exact Below.refl _ _ | apply Below.drew | apply below_drewN | (refine Below.setCell ?_ (by first | omega | (simp; done) | (simp; omega) | (dsimp only; omega)) _) | (refine Below.alloc ?_ (by first | omega | (simp; done) | (simp; omega) | (dsimp only; omega)) _))))) k) (fun u hu => HO1.out u (List.mem_of_mem_take hu)) (by unfold maxLen; omega) (by omega) (by simp; try omega) ?_; intro v1 wA ho1 hg1 hb1)
            | (refine step_append_below _ wo wo.heap.size (hb1.alloc hb1.size _) (by rfl) _ _ 44 (by rfl) 23 s0 (.slice none 0 0) 1 24 Try.underlying44 si sz0 sz1 sz2 rfl (by decide) _ _ _ (by rfl) (ho1.alloc _) ⟨_, 0, none⟩ 1 1 [.slice ar nl cr] (by rfl) (by rfl) (cell_one_new _ _ _) (by simp [Value.oneCell']) (by unfold maxLen; omega) (by omega) (by have := hb1.size; simp; omega) ?_; intro v2 wB ho2 hg2 hb2)
            | (refine step_append_below _ wo wo.heap.size hb1 (by rfl) _ _ 44 (by rfl) 23 s0 (.slice none 0 0) 1 24 Try.underlying44 si sz0 sz1 sz2 rfl (by decide) _ _ _ (by rfl) ho1 ⟨_, 0, none⟩ 1 1 [.slice ar nl cr] (by rfl) (by rfl) (by intro j u hu; rcases j with _ | j; (rw [add_at rfl, hg1.cell_far ⟨_, _, none⟩ (by simp; try omega) (by simp [Value.ownBlock]; try omega)]; simp at hu; subst hu; simp [go_sem]); (simp at hu)) (by simp [Value.oneCell']) (by unfold maxLen; omega) (by omega) hb1.size ?_; intro v2 wB ho2 hg2 hb2)
            | (refine step_append_below _ wo wo.heap.size hb2 (by rfl) _ _ 44 (by rfl) 23 s0 (.slice none 0 0) 1 24 Try.underlying44 si sz0 sz1 sz2 rfl (by decide) _ _ _ (by rfl) ho2 ⟨b0, off0, none⟩ (n - k) _ (vs.drop k) (by rfl) (by simp; omega) (by rw [List.drop_of_length_le (by omega)]; intro j u hu; simp at hu) (fun u hu => HO1.out u (List.mem_of_mem_drop hu)) (by unfold maxLen; omega) (by omega) hb2.size ?_; intro v3 wC ho3 hg3 hb3))
          all_goals
            obtain ⟨g3, c3, rfl, hi3, hs3, hr3, hm3⟩ := put_endR hk HVL.out ho3
            have HI := Lib.hid hi3; clear hi3
            clear ho3 ho2 ho1 hg1 hg2 hg3
            go_wp2
            go_ret
            exact ⟨g3, c3, rfl, by rw [HEK.out]; exact HI.out, hs3, hr3, hm3, HBw.out.trans (hb3.mono hz2)⟩

        · go_region_law (first
            | (refine step_append_below _ wo wo.heap.size (by (repeat (first | exact Below.refl _ _ | apply Below.drew | apply below_drewN | (refine Below.setCell ?_ (by first | omega | (simp; done) | (simp; omega) | (dsimp only; omega)) _) | (refine Below.alloc ?_ (by first | omega | (simp; done) | (simp; omega) | (dsimp only; omega)) _)))) (by rfl) _ _ 44 (by rfl) 23 s0 (.slice none 0 0) 1 24 Try.underlying44 si sz0 sz1 sz2 rfl (by decide) (.slice (some ⟨_, 0, none⟩) 0 0) 0 [] (by rfl) (own_empty (by first | exact heap1 wo _ | exact heap2 wo _ _ | exact heap3 wo _ _) (by simp)) ⟨b0, off0, none⟩ k _ (vs.take k) (by rfl) (by simp; omega) (cv_take (HV1.out.later hb01 (by (repeat (first | exact Below.refl _ _ | apply Below.drew | apply below_drewN | (refine Below.setCell ?_ (by first | omega | (simp; done) | (simp; omega) | (dsimp only; omega)) _) | (refine Below.alloc ?_ (by first | omega | (simp; done) | (simp; omega) | (dsimp only; omega)) _))))) k) (fun u hu => HO1.out u (List.mem_of_mem_take hu)) (by unfold maxLen; omega) (by omega) (by simp; try omega) ?_; intro v1 wA ho1 hg1 hb1)
            | (refine step_append_below _ wo wo.heap.size (hb1.alloc hb1.size _) (by rfl) _ _ 44 (by rfl) 23 s0 (.slice none 0 0) 1 24 Try.underlying44 si sz0 sz1 sz2 rfl (by decide) _ _ _ (by rfl) (ho1.alloc _) ⟨_, 0, none⟩ 1 1 [.slice ar nl cr] (by rfl) (by rfl) (cell_one_new _ _ _) (by simp [Value.oneCell']) (by unfold maxLen; omega) (by omega) (by have := hb1.size; simp; omega) ?_; intro v2 wB ho2 hg2 hb2)
            | (refine step_append_below _ wo wo.heap.size hb1 (by rfl) _ _ 44 (by rfl) 23 s0 (.slice none 0 0) 1 24 Try.underlying44 si sz0 sz1 sz2 rfl (by decide) _ _ _ (by rfl) ho1 ⟨_, 0, none⟩ 1 1 [.slice ar nl cr] (by rfl) (by rfl) (by intro j u hu; rcases j with _ | j; (rw [add_at rfl, hg1.cell_far ⟨_, _, none⟩ (by simp; try omega) (by simp [Value.ownBlock]; try omega)]; simp at hu; subst hu; simp [go_sem]); (simp at hu)) (by simp [Value.oneCell']) (by unfold maxLen; omega) (by omega) hb1.size ?_; intro v2 wB ho2 hg2 hb2)
            | (refine step_append_below _ wo wo.heap.size hb2 (by rfl) _ _ 44 (by rfl) 23 s0 (.slice none 0 0) 1 24 Try.underlying44 si sz0 sz1 sz2 rfl (by decide) _ _ _ (by rfl) ho2 ⟨b0, off0 + k, none⟩ (n - k) _ (vs.drop k) (by rfl) (by simp; omega) (cv_drop (HV1.out.later hb01 hb2) k) (fun u hu => HO1.out u (List.mem_of_mem_drop hu)) (by unfold maxLen; omega) (by omega) hb2.size ?_; intro v3 wC ho3 hg3 hb3))
          all_goals
            obtain ⟨g3, c3, rfl, hi3, hs3, hr3, hm3⟩ := put_endR hk HVL.out ho3
            have HI := Lib.hid hi3; clear hi3
            clear ho3 ho2 ho1 hg1 hg2 hg3
            go_wp2
            go_ret
            exact ⟨g3, c3, rfl, by rw [HEK.out]; exact HI.out, hs3, hr3, hm3, HBw.out.trans (hb3.mono hz2)⟩

end Go.Proofs.Ytldogbahbjompaa
