/- slices.DeleteFunc at slices of numbers: what is kept. -/
import Derived.Test.YtmilpahggceemaaKdWorks2
import Derived.Test.YtmilpahggceemaaKdChg
import Derived.Test.YtmilpahggceemaaKdLay0
set_option linter.unusedVariables false
set_option linter.unusedSimpArgs false
namespace Go.KD
open Go.RowKit
/-- What is kept of the first j. -/
def keepK (p : Int → Bool) (l : List Int) (j : Nat) : List Int := (l.take j).filter fun x => !p x
def keepL (p : Int → Bool) (l : List Int) : List Int := l.filter fun x => !p x
theorem keepK_all (p : Int → Bool) (l : List Int) : keepK p l l.length = keepL p l := by unfold keepK keepL; rw [List.take_length]
theorem keepK_le (p : Int → Bool) (l : List Int) (j : Nat) : (keepK p l j).length ≤ j := Nat.le_trans (List.length_filter_le _ _) (List.length_take_le _ _)
theorem keepL_le (p : Int → Bool) (l : List Int) : (keepL p l).length ≤ l.length := List.length_filter_le _ _
theorem keepK_none {p : Int → Bool} {l : List Int} {j : Nat} (hj : j ≤ l.length) (h : ∀ k, k < j → p l[k]! = false) : keepK p l j = l.take j := by
  unfold keepK
  rw [List.filter_eq_self]
  intro x hx
  obtain ⟨k, hk, rfl⟩ := List.mem_iff_getElem.1 hx
  have hk' : k < j := by simp at hk; omega
  have := h k hk'
  rw [getElem!_pos l k (by omega)] at this
  simp [this]
theorem keepL_none {p : Int → Bool} {l : List Int} (h : ∀ k, k < l.length → p l[k]! = false) : keepL p l = l := by
  rw [← keepK_all, keepK_none (Nat.le_refl _) h, List.take_length]
theorem keepK_no {p : Int → Bool} {l : List Int} {j : Nat} (hj : j < l.length) (h : p l[j]! = true) : keepK p l (j + 1) = keepK p l j := by
  unfold keepK; rw [take_snoc hj, List.filter_append, List.filter_cons, h]; simp
theorem keepK_yes {p : Int → Bool} {l : List Int} {j : Nat} (hj : j < l.length) (h : p l[j]! = false) : keepK p l (j + 1) = keepK p l j ++ [l[j]!] := by
  unfold keepK; rw [take_snoc hj, List.filter_append, List.filter_cons, h]; simp
/-- The row while it is written: what is kept, then what is left over, then what comes. -/
structure DelInv (p : Int → Bool) (l dk : List Int) (j i : Nat) : Prop where
  len : dk.length = l.length
  il : i = (keepK p l j).length
  kept : dk.take i = keepK p l j
  rest : ∀ k, j ≤ k → k < l.length → dk[k]! = l[k]!
  ij : i < j
theorem DelInv.start {p : Int → Bool} {l : List Int} {k : Nat} (hk : k < l.length) (h : ∀ j, j < k → p l[j]! = false) (h1 : p l[k]! = true) : DelInv p l l (k + 1) k := by
  have e : keepK p l (k + 1) = l.take k := by rw [keepK_no hk h1, keepK_none (by omega) h]
  exact ⟨rfl, by rw [e]; simp; omega, e.symm, fun _ _ _ => rfl, by omega⟩
theorem DelInv.skip {p : Int → Bool} {l dk : List Int} {j i : Nat} (h : DelInv p l dk j i) (hj : j < l.length) (h1 : p l[j]! = true) : DelInv p l dk (j + 1) i :=
  ⟨h.len, by rw [keepK_no hj h1]; exact h.il, by rw [keepK_no hj h1]; exact h.kept, fun k hk hl => h.rest k (by omega) hl, by have := h.ij; omega⟩
theorem DelInv.keep {p : Int → Bool} {l dk : List Int} {j i : Nat} (h : DelInv p l dk j i) (hj : j < l.length) (h1 : p l[j]! = false) : DelInv p l (dk.set i l[j]!) (j + 1) (i + 1) := by
  have hi := h.ij
  have hl := h.len
  refine ⟨by rw [List.length_set]; exact h.len, by rw [keepK_yes hj h1, List.length_append, ← h.il]; rfl, ?_, fun k hk hkl => ?_, by omega⟩
  · rw [keepK_yes hj h1, ← h.kept, take_snoc (by rw [List.length_set]; omega), List.take_set_of_le (by omega), getElem!_pos _ i (by rw [List.length_set]; omega), List.getElem_set_self]
  · rw [getElem!_pos _ k (by rw [List.length_set]; omega), List.getElem_set_ne (by omega), ← getElem!_pos dk k (by omega)]
    exact h.rest k (by omega) hkl
theorem ic_grown2D {w w' : World} {g off : Nat} {l : List Int} {row : Option Nat} (h : IC w (some ⟨g, off, none⟩) l) (hg : w.grownBy w' row) (hne : ∀ b, (Value.slice (some ⟨g, off, none⟩) 0 0).ownBlock = some b → row ≠ some b) : IC w' (some ⟨g, off, none⟩) l := by
  intro k hk
  obtain ⟨b, o, hb, hbs, hc⟩ := h k hk
  cases hb
  refine ⟨g, off, rfl, Nat.lt_of_lt_of_le hbs hg.size, ?_⟩
  rw [← hc]
  exact World.cell?_of_block (hg.block g hbs (fun e => hne g rfl e.symm))
theorem own_someD {w : World} {base : Nat} {e : TypeId} {size n : Nat} {v : Value} {xs : List Value} (h : w.ownsRow base e size v n xs) (hn : 0 < n) : ∃ g c, v = .slice (some ⟨g, 0, none⟩) n c ∧ n ≤ c ∧ c ≤ maxLen := by
  rcases h.2 with ⟨_, h0⟩ | ⟨g, cap, cur, hv, _, _, h1, h2, _⟩
  · omega
  · exact ⟨g, cap, hv, h1, h2⟩
/-- The rest of an owned row is cleared. -/
theorem run_clear_rest {P : Program} (w : World) (t ty e eb : TypeId) (i : TypeInfo) (ht : P.underlying t = some (.slice e)) (hi : P.info? e = some i) (hz : i.zero = some (.int .i64 0)) (base g n cap k : Nat) (L : List Int) (hk : k < n) (hL : L.length = n)
    (hown : w.ownsRow base eb 1 (.slice (some ⟨g, 0, none⟩) n cap) n (ints L)) :
    ∃ w', (Builtin.clear_ #[t] ty #[.slice (some ⟨g, 0 + k, none⟩) (n - k) (cap - k)]).run P w = .ok (.tuple #[]) w' ∧ w'.ownsRow base eb 1 (.slice (some ⟨g, 0, none⟩) k cap) k (ints (L.take k)) ∧ w.grownBy w' (some g) := by
  obtain ⟨hl, h⟩ := hown
  rcases h with ⟨hv, h0⟩ | ⟨g', cap', cur, hv, hb, hh, hnc, hcm, hcs, htk⟩
  · omega
  cases hv
  have hzl : (ints (List.replicate (n - k) 0)).length = n - k := by simp
  have hst := run_storeCells_at P g k eb (ints (List.replicate (n - k) 0)) 0 cur w hh (by simp; omega) (fun u hu => by simp only [ints, List.mem_map] at hu; obtain ⟨x, _, rfl⟩ := hu; rfl)
  obtain ⟨q, hq⟩ : ∃ q, n - k = q + 1 := ⟨n - k - 1, by omega⟩
  rw [hq] at hst hzl ⊢
  refine ⟨w.setRow g (cur.toList.take k ++ ints (List.replicate (q + 1) 0) ++ cur.toList.drop (k + (q + 1))).toArray, ?_, ⟨by simp; omega, .inr ⟨g, cap, (cur.toList.take k ++ ints (List.replicate (q + 1) 0) ++ cur.toList.drop (k + (q + 1))).toArray, rfl, hb, setRow_heap w g cur _ eb _ hh, by omega, hcm, ?_, ?_⟩⟩, ⟨rfl, rfl, rfl, by simp, fun j _ hk => setRow_other w g j _ (fun e => hk (by simp [e]))⟩⟩
  · simp only [Nat.add_zero, hzl] at hst
    simp [Builtin.clear_, run_underlying ht, zeroValue, typeInfo, hi, hz, zero_ints, hst]
  · have : cur.size = cap * 1 := hcs
    simp; omega
  · have h1 : cur.toList.take k = ints (L.take k) := by
      have := congrArg (List.take k) htk
      rw [List.take_take, Nat.min_eq_left (by omega)] at this
      rw [this]; simp [ints, List.map_take]
    have hsz : cur.size = cap * 1 := hcs
    simp only [Nat.mul_one] at *
    rw [List.append_assoc, List.take_append_of_le_length (by simp; omega), List.take_take, Nat.min_self, h1]
end Go.KD
namespace Go.Proofs.Ytmilpahggceemaa
open Go.RowKit Go.KD
attribute [local go_sem] later_cell later_frozen
set_option maxRecDepth 100000 in
set_option maxHeartbeats 4000000 in
/-- What is kept of an owned row. -/
theorem deleteFunc_c (F : FuncId) (fn : Func) (hf1 : Try.prog.funcs[F]? = some fn) (hf2 : (fn.name == "runtime.NumGoroutine") = false) (hf3 : fn.body.isNone = false) (caps : Array Value) (p : Int → Bool) (lo hi : Nat) (e : TypeId) (a : Option Addr) (cap n : Nat) (l : List Int) (w : World) (hn : n = l.length) (ho : Own lo hi w e 1 (.slice a n cap) n (ints l)) (hhi : hi ≤ w.heap.size) (hl : n ≤ 1048576)
    (hp : ∀ k x, k < l.length → l[k]! = x → ∀ w', Chg lo hi w w' → Calls Try.prog F (#[.int .i64 x] ++ caps) w' fun e w'' => e = .returned (.bool (p x)) ∧ Below w'.heap.size w' w'') :
    Calls Try.prog 202 #[.slice a n cap, .func (.func F) #[] caps] w fun ee w' => ∃ u, ee = .returned u ∧ Own lo hi w' e 1 u (keepL p l).length (ints (keepL p l)) ∧ Chg lo hi w w' := by
  have HN := Lib.hid hn
  have HP := Lib.hid hp
  have HPB : Hid (∀ k x, k < l.length → l[k]! = x → ∀ w', Below w.heap.size w w' → Calls Try.prog F (#[.int .i64 x] ++ caps) w' fun e w'' => e = .returned (.bool (p x)) ∧ Below w'.heap.size w' w'') := fun k x hk hx w' hb => hp k x hk hx w' (Chg.of_below hb)
  have hcf := run_callFunc hf1 hf2 hf3
  have hA : IC w a l := ic_of' ho hn
  have HO := Lib.hid ho
  by_cases hall : ∀ j, j < l.length → p l[j]! = false
  · have HKL : Hid (keepL p l = l) := keepL_none hall
    have HI : Hid (idxP p l = -1) := idxP_none hall
    have HF := @indexFunc_c F fn hf1 hf2 hf3
    have HFH := Lib.hid HF
    clear HF hf1 hf2 hf3 hcf hn ho hp hall
    go_enter Try.func202, Try.ntmps202
    go_wp2_with (go_at_call 285; refine (HFH.out caps p _ _ _ l _ HN.out hA hl HPB.out).mono ?_; rintro e w1 ⟨rfl, hb1⟩; rw [HI.out])
    go_ret
    exact ⟨_, rfl, by rw [HKL.out, ← HN.out]; exact HO.out.later hb1 hhi, Chg.of_below hb1⟩
  · obtain ⟨k0, hk0, hne, hy⟩ : ∃ k, k < l.length ∧ (∀ j, j < k → p l[j]! = false) ∧ p l[k]! = true := by
      have hex : ∃ k, k < l.length ∧ p l[k]! = true := by
        refine Classical.byContradiction fun hc => hall fun j hj => ?_
        cases hb : p l[j]!
        · rfl
        · exact absurd ⟨j, hj, hb⟩ hc
      obtain ⟨k, hk⟩ := hex
      induction k using Nat.strongRecOn with
      | _ k ih =>
        by_cases hm : ∃ j, j < k ∧ p l[j]! = true
        · obtain ⟨j, hj, hj1⟩ := hm
          exact ih j hj ⟨by omega, hj1⟩
        · refine ⟨k, hk.1, fun j hj => ?_, hk.2⟩
          cases hb : p l[j]!
          · rfl
          · exact absurd ⟨j, hj, hb⟩ hm
    have HI : Hid (idxP p l = (k0 : Int)) := idxP_at hk0 hne hy
    have HD : Hid (DelInv p l l (k0 + 1) k0) := DelInv.start hk0 hne hy
    have HFH := Lib.hid (@indexFunc_c F fn hf1 hf2 hf3)
    have hkn : k0 < n := by omega
    obtain ⟨g, c', hs, hcapn, hcapm⟩ := own_someD ho.row (by omega : 0 < n)
    obtain ⟨rfl, rfl⟩ : a = some ⟨g, 0, none⟩ ∧ cap = c' := by cases hs; exact ⟨rfl, rfl⟩
    have hgl := own_block_lo ho.row (g := g) rfl
    have hgh := ho.top g rfl
    have hne1 : ((k0 : Int) == -1) = false := beq_eq_false_iff_ne.2 (by omega)
    unfold maxLen at hcapm
    obtain ⟨i0, ji, jz0, jz1, jz2⟩ := info_parts infoI
    clear hf1 hf2 hf3 hn ho hp hall hne hy hs
    go_enter Try.func202, Try.ntmps202
    go_wp2_with (go_at_call 285; refine (HFH.out caps p _ _ _ l _ HN.out hA hl HPB.out).mono ?_; rintro e w1 ⟨rfl, hb1⟩; rw [HI.out])
    go_loopw [5, 6] (fun u v wr => ∃ i j : Nat, ∃ dk : List Int, u = .int .i64 i ∧ v = .int .i64 j ∧ j ≤ n ∧ Hid (DelInv p l dk j i) ∧ Hid (Own lo hi wr e 1 (.slice (some ⟨g, 0, none⟩) n cap) n (ints dk)) ∧ Hid (Chg lo hi w wr)) (fun _ v _ => n - (intOf v).toNat)
    case atStart => exact ⟨k0, k0 + 1, l, rfl, by go_num, by omega, HD, HO.out.later hb1 hhi, Chg.of_below hb1⟩
    case round =>
      clear hb1
      obtain ⟨wi, rfl⟩ : ∃ wi : World, wi = wr := ⟨_, rfl⟩
      obtain ⟨i, j, dk, rfl, rfl, hj, HV, HR, HC⟩ := hrel
      have hij := HV.out.ij
      by_cases hlt : j < n
      · have hjI : (j : Int) < (n : Int) := by omega
        have hiI : (i : Int) < (n : Int) := by omega
        have hjl : j < l.length := by have := HN.out; omega
        have hdl : dk.length = n := by have := HV.out.len; have := HN.out; omega
        have hD : dk[j]! = l[j]! := HV.out.rest j (Nat.le_refl _) hjl
        obtain ⟨x, hx⟩ : ∃ x, x = l[j]! := ⟨_, rfl⟩
        have cj := own_intK HR.out.row j hlt hdl
        have ci := own_intK HR.out.row i (by omega) hdl
        obtain ⟨y, hy⟩ : ∃ y, y = dk[i]! := ⟨_, rfl⟩
        rw [hD, ← hx] at cj
        rw [← hy] at ci
        have fi := (own_cell HR.out.row i (by omega)).2
        have HX := Lib.hid hx
        have hcall := HP.out j x hjl hx.symm wi HC.out
        clear hD hx hy hdl
        have hz : g < wi.heap.size := by
          rcases Nat.lt_or_ge g wi.heap.size with h | h
          · exact h
          · rw [World.cell?, Array.getElem?_eq_none h] at cj; cases cj
        cases hq : p x with
        | false =>
          rw [hq] at hcall
          have HQ := Lib.hid hq; clear hq
          go_wp2_with fail
          refine hcall.mono ?_
          rintro e2 w2 ⟨rfl, hb2⟩
          obtain ⟨hc2, hf2, hs2⟩ := bcell3 hb2
          have ci2 : w2.cell? ⟨g, i, none⟩ = some (.int .i64 y) := (hc2 _ _ hz).trans ci
          have fi2 : w2.frozen? ⟨g, i, none⟩ = false := (hf2 _ _ hz).trans fi
          clear hc2 hf2 ci cj fi hcall
          have HR2 : Hid (Own lo hi w2 e 1 (.slice (some ⟨g, 0, none⟩) n cap) n (ints dk)) := by
            have hr := HR.out
            exact ⟨((Own.of hr.row).later hb2 (Nat.le_refl _)).row, hr.top⟩
          obtain ⟨ho3, hg3⟩ := own_store1 HR2.out.row i x
          have HR3 : Hid (Own lo hi (w2.setCell ⟨g, i, none⟩ (.int .i64 x)) e 1 (.slice (some ⟨g, 0, none⟩) n cap) n (ints (dk.set i x))) := ⟨ho3, HR2.out.top⟩
          have HC3 : Hid (Chg lo hi w (w2.setCell ⟨g, i, none⟩ (.int .i64 x))) := HC.out.trans ((Chg.of_below hb2).trans (Chg.of_grown hg3 (fun g' hg' => by cases hg'; exact ⟨hgl, hgh⟩)))
          clear ho3 hg3 hb2
          go_wp2_with fail
          go_roundw
          case rel => exact ⟨i + 1, j + 1, dk.set i x, by go_num, by go_num, by omega, (by have := HV.out.keep hjl (by rw [← HX.out]; exact HQ.out); rw [← HX.out] at this; exact this), HR3, HC3⟩
          case measure => simp [intOf]; omega
        | true =>
          rw [hq] at hcall
          have HQ := Lib.hid hq; clear hq
          go_wp2_with fail
          refine hcall.mono ?_
          rintro e2 w2 ⟨rfl, hb2⟩
          have HR2 : Hid (Own lo hi w2 e 1 (.slice (some ⟨g, 0, none⟩) n cap) n (ints dk)) := by
            have hr := HR.out
            exact ⟨((Own.of hr.row).later hb2 (Nat.le_refl _)).row, hr.top⟩
          have HC3 : Hid (Chg lo hi w w2) := HC.out.trans (Chg.of_below hb2)
          clear hb2 ci cj fi hcall
          go_wp2_with fail
          go_roundw
          case rel => exact ⟨i, j + 1, dk, rfl, by go_num, by omega, HV.out.skip hjl (by rw [← HX.out]; exact HQ.out), HR2, HC3⟩
          case measure => simp [intOf]; omega
      · obtain rfl : j = n := by omega
        have hdl : dk.length = j := by have := HV.out.len; have := HN.out; omega
        have hic : i < j := hij
        have hiI : (i : Int) < (j : Int) := by omega
        have hicI : (i : Int) < (cap : Int) := by omega
        have hjc : (j : Int) ≤ (cap : Int) := by omega
        obtain ⟨w3, hrun, ho3, hg3⟩ := run_clear_rest (P := Try.prog) wi 24 0 3 e i0 Try.underlying24 ji jz0 lo g j cap i dk hic hdl HR.out.row
        have HK : Hid (dk.take i = keepL p l ∧ i = (keepL p l).length) := by
          have h1 := HV.out.kept; have h2 := HV.out.il; have h3 := HN.out
          rw [h3, keepK_all] at h1 h2
          exact ⟨h1, h2⟩
        have HR3 : Hid (Own lo hi w3 e 1 (.slice (some ⟨g, 0, none⟩) i cap) i (ints (dk.take i))) := ⟨ho3, fun g' hg' => by cases hg'; exact hgh⟩
        have HC3 : Hid (Chg lo hi w w3) := HC.out.trans (Chg.of_grown hg3 (fun g' hg' => by cases hg'; exact ⟨hgl, hgh⟩))
        clear ho3 hg3 hdl
        rw [Nat.zero_add] at hrun
        go_wp2
        go_ret
        exact ⟨_, rfl, by have := HR3.out; rw [HK.out.1] at this; rw [← HK.out.2]; exact this, HC3.out⟩
end Go.Proofs.Ytmilpahggceemaa
