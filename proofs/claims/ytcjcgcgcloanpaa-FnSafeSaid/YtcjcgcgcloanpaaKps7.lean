/- slices.DeleteFunc at slices of numbers: what is kept. Contract of nextLocks. Contract of nextLocks. Contracts of opening, l7Opening and what tells whether an opening wins. Draws of openings, and the draws of the laws of spent keys. Printed by dev/mk_mdraw4.py. Openings as the laws ask for them. -/
import Derived.Test.YtcjcgcgcloanpaaKps2
import Derived.Test.YtcjcgcgcloanpaaKps0
import Derived.Test.YtcjcgcgcloanpaaKps6
import Derived.Test.YtcjcgcgcloanpaaKps5
import Derived.Deep.DeepCutAuto
import Derived.Test.YtcjcgcgcloanpaaKps4
set_option linter.unusedVariables false
set_option linter.unusedSimpArgs false
namespace Go.KD
open Go.RowKit
/-- What is kept of the first j. -/
def keepK (p : Int → Bool) (l : List Int) (j : Nat) : List Int := (l.take j).filter fun x => !p x
def keepL (p : Int → Bool) (l : List Int) : List Int := l.filter fun x => !p x
theorem keepK_all (p : Int → Bool) (l : List Int) : keepK p l l.length = keepL p l := by unfold keepK keepL; rw [List.take_length]
theorem keepK_le (p : Int → Bool) (l : List Int) (j : Nat) : (keepK p l j).length ≤ j := Nat.le_trans (List.length_filter_le _ _) (List.length_take_le _ _)
theorem keepL_le (p : Int → Bool) (l : List Int) : (keepL p l).length ≤ l.length := List.length_filter_le _ _
theorem keepK_none {p : Int → Bool} {l : List Int} {j : Nat} (hj : j ≤ l.length) (h : ∀ k, k < j → p l[k]! = false) : keepK p l j = l.take j := by
  unfold keepK
  rw [List.filter_eq_self]
  intro x hx
  obtain ⟨k, hk, rfl⟩ := List.mem_iff_getElem.1 hx
  have hk' : k < j := by simp at hk; omega
  have := h k hk'
  rw [getElem!_pos l k (by omega)] at this
  simp [this]
theorem keepL_none {p : Int → Bool} {l : List Int} (h : ∀ k, k < l.length → p l[k]! = false) : keepL p l = l := by
  rw [← keepK_all, keepK_none (Nat.le_refl _) h, List.take_length]
theorem keepK_no {p : Int → Bool} {l : List Int} {j : Nat} (hj : j < l.length) (h : p l[j]! = true) : keepK p l (j + 1) = keepK p l j := by
  unfold keepK; rw [take_snoc hj, List.filter_append, List.filter_cons, h]; simp
theorem keepK_yes {p : Int → Bool} {l : List Int} {j : Nat} (hj : j < l.length) (h : p l[j]! = false) : keepK p l (j + 1) = keepK p l j ++ [l[j]!] := by
  unfold keepK; rw [take_snoc hj, List.filter_append, List.filter_cons, h]; simp
/-- The row while it is written: what is kept, then what is left over, then what comes. -/
structure DelInv (p : Int → Bool) (l dk : List Int) (j i : Nat) : Prop where
  len : dk.length = l.length
  il : i = (keepK p l j).length
  kept : dk.take i = keepK p l j
  rest : ∀ k, j ≤ k → k < l.length → dk[k]! = l[k]!
  ij : i < j
theorem DelInv.start {p : Int → Bool} {l : List Int} {k : Nat} (hk : k < l.length) (h : ∀ j, j < k → p l[j]! = false) (h1 : p l[k]! = true) : DelInv p l l (k + 1) k := by
  have e : keepK p l (k + 1) = l.take k := by rw [keepK_no hk h1, keepK_none (by omega) h]
  exact ⟨rfl, by rw [e]; simp; omega, e.symm, fun _ _ _ => rfl, by omega⟩
theorem DelInv.skip {p : Int → Bool} {l dk : List Int} {j i : Nat} (h : DelInv p l dk j i) (hj : j < l.length) (h1 : p l[j]! = true) : DelInv p l dk (j + 1) i :=
  ⟨h.len, by rw [keepK_no hj h1]; exact h.il, by rw [keepK_no hj h1]; exact h.kept, fun k hk hl => h.rest k (by omega) hl, by have := h.ij; omega⟩
theorem DelInv.keep {p : Int → Bool} {l dk : List Int} {j i : Nat} (h : DelInv p l dk j i) (hj : j < l.length) (h1 : p l[j]! = false) : DelInv p l (dk.set i l[j]!) (j + 1) (i + 1) := by
  have hi := h.ij
  have hl := h.len
  refine ⟨by rw [List.length_set]; exact h.len, by rw [keepK_yes hj h1, List.length_append, ← h.il]; rfl, ?_, fun k hk hkl => ?_, by omega⟩
  · rw [keepK_yes hj h1, ← h.kept, take_snoc (by rw [List.length_set]; omega), List.take_set_of_le (by omega), getElem!_pos _ i (by rw [List.length_set]; omega), List.getElem_set_self]
  · rw [getElem!_pos _ k (by rw [List.length_set]; omega), List.getElem_set_ne (by omega), ← getElem!_pos dk k (by omega)]
    exact h.rest k (by omega) hkl
theorem ic_grown2D {w w' : World} {g off : Nat} {l : List Int} {row : Option Nat} (h : IC w (some ⟨g, off, none⟩) l) (hg : w.grownBy w' row) (hne : ∀ b, (Value.slice (some ⟨g, off, none⟩) 0 0).ownBlock = some b → row ≠ some b) : IC w' (some ⟨g, off, none⟩) l := by
  intro k hk
  obtain ⟨b, o, hb, hbs, hc⟩ := h k hk
  cases hb
  refine ⟨g, off, rfl, Nat.lt_of_lt_of_le hbs hg.size, ?_⟩
  rw [← hc]
  exact World.cell?_of_block (hg.block g hbs (fun e => hne g rfl e.symm))
theorem own_someD {w : World} {base : Nat} {e : TypeId} {size n : Nat} {v : Value} {xs : List Value} (h : w.ownsRow base e size v n xs) (hn : 0 < n) : ∃ g c, v = .slice (some ⟨g, 0, none⟩) n c ∧ n ≤ c ∧ c ≤ maxLen := by
  rcases h.2 with ⟨_, h0⟩ | ⟨g, cap, cur, hv, _, _, h1, h2, _⟩
  · omega
  · exact ⟨g, cap, hv, h1, h2⟩
/-- The rest of an owned row is cleared. -/
theorem run_clear_rest {P : Program} (w : World) (t ty e eb : TypeId) (i : TypeInfo) (ht : P.underlying t = some (.slice e)) (hi : P.info? e = some i) (hz : i.zero = some (.int .i64 0)) (base g n cap k : Nat) (L : List Int) (hk : k < n) (hL : L.length = n)
    (hown : w.ownsRow base eb 1 (.slice (some ⟨g, 0, none⟩) n cap) n (ints L)) :
    ∃ w', (Builtin.clear_ #[t] ty #[.slice (some ⟨g, 0 + k, none⟩) (n - k) (cap - k)]).run P w = .ok (.tuple #[]) w' ∧ w'.ownsRow base eb 1 (.slice (some ⟨g, 0, none⟩) k cap) k (ints (L.take k)) ∧ w.grownBy w' (some g) := by
  obtain ⟨hl, h⟩ := hown
  rcases h with ⟨hv, h0⟩ | ⟨g', cap', cur, hv, hb, hh, hnc, hcm, hcs, htk⟩
  · omega
  cases hv
  have hzl : (ints (List.replicate (n - k) 0)).length = n - k := by simp
  have hst := run_storeCells_at P g k eb (ints (List.replicate (n - k) 0)) 0 cur w hh (by simp; omega) (fun u hu => by simp only [ints, List.mem_map] at hu; obtain ⟨x, _, rfl⟩ := hu; rfl)
  obtain ⟨q, hq⟩ : ∃ q, n - k = q + 1 := ⟨n - k - 1, by omega⟩
  rw [hq] at hst hzl ⊢
  refine ⟨w.setRow g (cur.toList.take k ++ ints (List.replicate (q + 1) 0) ++ cur.toList.drop (k + (q + 1))).toArray, ?_, ⟨by simp; omega, .inr ⟨g, cap, (cur.toList.take k ++ ints (List.replicate (q + 1) 0) ++ cur.toList.drop (k + (q + 1))).toArray, rfl, hb, setRow_heap w g cur _ eb _ hh, by omega, hcm, ?_, ?_⟩⟩, ⟨rfl, rfl, rfl, by simp, fun j _ hk => setRow_other w g j _ (fun e => hk (by simp [e]))⟩⟩
  · simp only [Nat.add_zero, hzl] at hst
    simp [Builtin.clear_, run_underlying ht, zeroValue, typeInfo, hi, hz, zero_ints, hst]
  · have : cur.size = cap * 1 := hcs
    simp; omega
  · have h1 : cur.toList.take k = ints (L.take k) := by
      have := congrArg (List.take k) htk
      rw [List.take_take, Nat.min_eq_left (by omega)] at this
      rw [this]; simp [ints, List.map_take]
    have hsz : cur.size = cap * 1 := hcs
    simp only [Nat.mul_one] at *
    rw [List.append_assoc, List.take_append_of_le_length (by simp; omega), List.take_take, Nat.min_self, h1]
end Go.KD
namespace Go.Proofs.Ytcjcgcgcloanpaa
open Go.RowKit Go.KD
attribute [local go_sem] later_cell later_frozen
set_option maxRecDepth 100000 in
set_option maxHeartbeats 4000000 in
/-- What is kept of an owned row. -/
theorem deleteFunc_c (F : FuncId) (fn : Func) (hf1 : Try.prog.funcs[F]? = some fn) (hf2 : (fn.name == "runtime.NumGoroutine") = false) (hf3 : fn.body.isNone = false) (caps : Array Value) (p : Int → Bool) (lo hi : Nat) (e : TypeId) (a : Option Addr) (cap n : Nat) (l : List Int) (w : World) (hn : n = l.length) (ho : Own lo hi w e 1 (.slice a n cap) n (ints l)) (hhi : hi ≤ w.heap.size) (hl : n ≤ 1048576)
    (hp : ∀ k x, k < l.length → l[k]! = x → ∀ w', Chg lo hi w w' → Calls Try.prog F (#[.int .i64 x] ++ caps) w' fun e w'' => e = .returned (.bool (p x)) ∧ Below w'.heap.size w' w'') :
    Calls Try.prog 87 #[.slice a n cap, .func (.func F) #[] caps] w fun ee w' => ∃ u, ee = .returned u ∧ Own lo hi w' e 1 u (keepL p l).length (ints (keepL p l)) ∧ Chg lo hi w w' := by
  have HN := Lib.hid hn
  have HP := Lib.hid hp
  have HPB : Hid (∀ k x, k < l.length → l[k]! = x → ∀ w', Below w.heap.size w w' → Calls Try.prog F (#[.int .i64 x] ++ caps) w' fun e w'' => e = .returned (.bool (p x)) ∧ Below w'.heap.size w' w'') := fun k x hk hx w' hb => hp k x hk hx w' (Chg.of_below hb)
  have hcf := run_callFunc hf1 hf2 hf3
  have hA : IC w a l := ic_of' ho hn
  have HO := Lib.hid ho
  by_cases hall : ∀ j, j < l.length → p l[j]! = false
  · have HKL : Hid (keepL p l = l) := keepL_none hall
    have HI : Hid (idxP p l = -1) := idxP_none hall
    have HF := @indexFunc_c F fn hf1 hf2 hf3
    have HFH := Lib.hid HF
    clear HF hf1 hf2 hf3 hcf hn ho hp hall
    go_enter Try.func87, Try.ntmps87
    go_wp2_with (go_at_call 153; refine (HFH.out caps p _ _ _ l _ HN.out hA hl HPB.out).mono ?_; rintro e w1 ⟨rfl, hb1⟩; rw [HI.out])
    go_ret
    exact ⟨_, rfl, by rw [HKL.out, ← HN.out]; exact HO.out.later hb1 hhi, Chg.of_below hb1⟩
  · obtain ⟨k0, hk0, hne, hy⟩ : ∃ k, k < l.length ∧ (∀ j, j < k → p l[j]! = false) ∧ p l[k]! = true := by
      have hex : ∃ k, k < l.length ∧ p l[k]! = true := by
        refine Classical.byContradiction fun hc => hall fun j hj => ?_
        cases hb : p l[j]!
        · rfl
        · exact absurd ⟨j, hj, hb⟩ hc
      obtain ⟨k, hk⟩ := hex
      induction k using Nat.strongRecOn with
      | _ k ih =>
        by_cases hm : ∃ j, j < k ∧ p l[j]! = true
        · obtain ⟨j, hj, hj1⟩ := hm
          exact ih j hj ⟨by omega, hj1⟩
        · refine ⟨k, hk.1, fun j hj => ?_, hk.2⟩
          cases hb : p l[j]!
          · rfl
          · exact absurd ⟨j, hj, hb⟩ hm
    have HI : Hid (idxP p l = (k0 : Int)) := idxP_at hk0 hne hy
    have HD : Hid (DelInv p l l (k0 + 1) k0) := DelInv.start hk0 hne hy
    have HFH := Lib.hid (@indexFunc_c F fn hf1 hf2 hf3)
    have hkn : k0 < n := by omega
    obtain ⟨g, c', hs, hcapn, hcapm⟩ := own_someD ho.row (by omega : 0 < n)
    obtain ⟨rfl, rfl⟩ : a = some ⟨g, 0, none⟩ ∧ cap = c' := by cases hs; exact ⟨rfl, rfl⟩
    have hgl := own_block_lo ho.row (g := g) rfl
    have hgh := ho.top g rfl
    have hne1 : ((k0 : Int) == -1) = false := beq_eq_false_iff_ne.2 (by omega)
    unfold maxLen at hcapm
    obtain ⟨i0, ji, jz0, jz1, jz2⟩ := info_parts infoI
    clear hf1 hf2 hf3 hn ho hp hall hne hy hs
    go_enter Try.func87, Try.ntmps87
    go_wp2_with (go_at_call 153; refine (HFH.out caps p _ _ _ l _ HN.out hA hl HPB.out).mono ?_; rintro e w1 ⟨rfl, hb1⟩; rw [HI.out])
    go_loopw [5, 6] (fun u v wr => ∃ i j : Nat, ∃ dk : List Int, u = .int .i64 i ∧ v = .int .i64 j ∧ j ≤ n ∧ Hid (DelInv p l dk j i) ∧ Hid (Own lo hi wr e 1 (.slice (some ⟨g, 0, none⟩) n cap) n (ints dk)) ∧ Hid (Chg lo hi w wr)) (fun _ v _ => n - (intOf v).toNat)
    case atStart => exact ⟨k0, k0 + 1, l, rfl, by go_num, by omega, HD, HO.out.later hb1 hhi, Chg.of_below hb1⟩
    case round =>
      clear hb1
      obtain ⟨wi, rfl⟩ : ∃ wi : World, wi = wr := ⟨_, rfl⟩
      obtain ⟨i, j, dk, rfl, rfl, hj, HV, HR, HC⟩ := hrel
      have hij := HV.out.ij
      by_cases hlt : j < n
      · have hjI : (j : Int) < (n : Int) := by omega
        have hiI : (i : Int) < (n : Int) := by omega
        have hjl : j < l.length := by have := HN.out; omega
        have hdl : dk.length = n := by have := HV.out.len; have := HN.out; omega
        have hD : dk[j]! = l[j]! := HV.out.rest j (Nat.le_refl _) hjl
        obtain ⟨x, hx⟩ : ∃ x, x = l[j]! := ⟨_, rfl⟩
        have cj := own_intK HR.out.row j hlt hdl
        have ci := own_intK HR.out.row i (by omega) hdl
        obtain ⟨y, hy⟩ : ∃ y, y = dk[i]! := ⟨_, rfl⟩
        rw [hD, ← hx] at cj
        rw [← hy] at ci
        have fi := (own_cell HR.out.row i (by omega)).2
        have HX := Lib.hid hx
        have hcall := HP.out j x hjl hx.symm wi HC.out
        clear hD hx hy hdl
        have hz : g < wi.heap.size := by
          rcases Nat.lt_or_ge g wi.heap.size with h | h
          · exact h
          · rw [World.cell?, Array.getElem?_eq_none h] at cj; cases cj
        cases hq : p x with
        | false =>
          rw [hq] at hcall
          have HQ := Lib.hid hq; clear hq
          go_wp2_with fail
          refine hcall.mono ?_
          rintro e2 w2 ⟨rfl, hb2⟩
          obtain ⟨hc2, hf2, hs2⟩ := bcell3 hb2
          have ci2 : w2.cell? ⟨g, i, none⟩ = some (.int .i64 y) := (hc2 _ _ hz).trans ci
          have fi2 : w2.frozen? ⟨g, i, none⟩ = false := (hf2 _ _ hz).trans fi
          clear hc2 hf2 ci cj fi hcall
          have HR2 : Hid (Own lo hi w2 e 1 (.slice (some ⟨g, 0, none⟩) n cap) n (ints dk)) := by
            have hr := HR.out
            exact ⟨((Own.of hr.row).later hb2 (Nat.le_refl _)).row, hr.top⟩
          obtain ⟨ho3, hg3⟩ := own_store1 HR2.out.row i x
          have HR3 : Hid (Own lo hi (w2.setCell ⟨g, i, none⟩ (.int .i64 x)) e 1 (.slice (some ⟨g, 0, none⟩) n cap) n (ints (dk.set i x))) := ⟨ho3, HR2.out.top⟩
          have HC3 : Hid (Chg lo hi w (w2.setCell ⟨g, i, none⟩ (.int .i64 x))) := HC.out.trans ((Chg.of_below hb2).trans (Chg.of_grown hg3 (fun g' hg' => by cases hg'; exact ⟨hgl, hgh⟩)))
          clear ho3 hg3 hb2
          go_wp2_with fail
          go_roundw
          case rel => exact ⟨i + 1, j + 1, dk.set i x, by go_num, by go_num, by omega, (by have := HV.out.keep hjl (by rw [← HX.out]; exact HQ.out); rw [← HX.out] at this; exact this), HR3, HC3⟩
          case measure => simp [intOf]; omega
        | true =>
          rw [hq] at hcall
          have HQ := Lib.hid hq; clear hq
          go_wp2_with fail
          refine hcall.mono ?_
          rintro e2 w2 ⟨rfl, hb2⟩
          have HR2 : Hid (Own lo hi w2 e 1 (.slice (some ⟨g, 0, none⟩) n cap) n (ints dk)) := by
            have hr := HR.out
            exact ⟨((Own.of hr.row).later hb2 (Nat.le_refl _)).row, hr.top⟩
          have HC3 : Hid (Chg lo hi w w2) := HC.out.trans (Chg.of_below hb2)
          clear hb2 ci cj fi hcall
          go_wp2_with fail
          go_roundw
          case rel => exact ⟨i, j + 1, dk, rfl, by go_num, by omega, HV.out.skip hjl (by rw [← HX.out]; exact HQ.out), HR2, HC3⟩
          case measure => simp [intOf]; omega
      · obtain rfl : j = n := by omega
        have hdl : dk.length = j := by have := HV.out.len; have := HN.out; omega
        have hic : i < j := hij
        have hiI : (i : Int) < (j : Int) := by omega
        have hicI : (i : Int) < (cap : Int) := by omega
        have hjc : (j : Int) ≤ (cap : Int) := by omega
        obtain ⟨w3, hrun, ho3, hg3⟩ := run_clear_rest (P := Try.prog) wi 25 0 3 e i0 Try.underlying25 ji jz0 lo g j cap i dk hic hdl HR.out.row
        have HK : Hid (dk.take i = keepL p l ∧ i = (keepL p l).length) := by
          have h1 := HV.out.kept; have h2 := HV.out.il; have h3 := HN.out
          rw [h3, keepK_all] at h1 h2
          exact ⟨h1, h2⟩
        have HR3 : Hid (Own lo hi w3 e 1 (.slice (some ⟨g, 0, none⟩) i cap) i (ints (dk.take i))) := ⟨ho3, fun g' hg' => by cases hg'; exact hgh⟩
        have HC3 : Hid (Chg lo hi w w3) := HC.out.trans (Chg.of_grown hg3 (fun g' hg' => by cases hg'; exact ⟨hgl, hgh⟩))
        clear ho3 hg3 hdl
        rw [Nat.zero_add] at hrun
        go_wp2
        go_ret
        exact ⟨_, rfl, by have := HR3.out; rw [HK.out.1] at this; rw [← HK.out.2]; exact this, HC3.out⟩
end Go.Proofs.Ytcjcgcgcloanpaa

namespace Go.KD
open Go.RowKit
theorem op_ofMem {m : Mz} {O : Nat} {L : List Int} (h : OpOk m O L) : OpOk m O (mem O) :=
  ⟨(Go.KD.mem_sorted O).imp fun h => by omega, fun _ => Iff.rfl, h.lt, fun c hc => by rw [leftC_perm h]; exact h.left c hc⟩
theorem canK_perm {m : Mz} {O : Nat} {L : List Int} (h : OpOk m O L) (k : Nat) : canK m O (mem O) k = canK m O L k := by
  unfold canK; simp only [leftC_perm h]
theorem nextL_perm {m : Mz} {O : Nat} {L : List Int} (h : OpOk m O L) : nextL m O (mem O) = nextL m O L := by
  unfold nextL nextK; simp only [canK_perm h]
/-- Is some colour of a lock not left? -/
def lackP (LF : List Int) (c : Int) : Bool := decide (LF[c.toNat]! = 0)
theorem lack_all {m : Mz} {O : Nat} {L : List Int} (h : OpOk m O L) {z : Nat} (hz : z < 64) : anyP (lackP (leftL m (nearN m O) L)) (mem z) = !((List.range 6).all fun c => !(z.testBit c) || decide (1 ≤ leftC m (nearN m O) L c)) := by
  rw [Bool.eq_iff_iff]
  unfold anyP
  simp only [List.any_eq_true, Bool.not_eq_true', ← Bool.not_eq_true, List.all_eq_true, List.mem_range]
  constructor
  · rintro ⟨x, hx, hl⟩ hall
    obtain ⟨i, _, hb, rfl⟩ := (in_mem z x).1 hx
    have hi : i < 6 := bit_lt (n := 6) hz hb
    have h1 := hall i hi
    unfold lackP at hl
    rw [Int.toNat_natCast, leftL_at _ _ _ _ hi, decide_eq_true_eq] at hl
    rw [hb] at h1
    have : 1 ≤ leftC m (nearN m O) L i := by simpa using h1
    omega
  · intro hn
    refine Classical.byContradiction fun hc => hn fun c hc6 => ?_
    cases hb : z.testBit c
    · rfl
    · have h0 := h.left c hc6
      by_cases h1 : 1 ≤ leftC m (nearN m O) L c
      · simp [h1]
      · exact absurd ⟨(c : Int), (in_mem z _).2 ⟨c, by omega, hb, rfl⟩, by unfold lackP; rw [Int.toNat_natCast, leftL_at _ _ _ _ hc6, decide_eq_true_eq]; omega⟩ hc
theorem canK_lack {m : Mz} {O : Nat} {L : List Int} (h : OpOk m O L) {k xn yn zn : Nat} (hz : zn < 64) (hX : m.doors[k]! = ((xn : Int), (yn : Int), (zn : Int))) : canK m O L k = (!O.testBit k && ((nearN m O).testBit xn || (nearN m O).testBit yn) && !(anyP (lackP (leftL m (nearN m O) L)) (mem zn))) := by
  rw [lack_all h hz, Bool.not_not]
  unfold canK
  rw [hX]
  rfl
def skipP (m : Mz) (O : Nat) (L : List Int) (k : Int) : Bool := !(canK m O L k.toNat)
theorem next_keep (m : Mz) (O : Nat) (L : List Int) : keepL (skipP m O L) (locksI m) = nextL m O L := by
  unfold keepL locksI locksK nextL nextK skipP
  rw [List.filter_map, List.filter_filter]
  congr 1
  refine List.filter_congr fun x _ => ?_
  simp [Bool.and_comm]
theorem locks_at {m : Mz} {k : Nat} (hk : k < (locksI m).length) : ∃ j : Nat, (locksI m)[k]! = (j : Int) ∧ j < m.doors.length := by
  have hm : (locksI m)[k]! ∈ locksI m := by rw [getElem!_pos _ k hk]; exact List.getElem_mem hk
  unfold locksI locksK at hm
  simp only [List.mem_map, List.mem_filter, List.mem_range] at hm
  obtain ⟨j, ⟨hj, _⟩, he⟩ := hm
  unfold locksI locksK
  exact ⟨j, he.symm, hj⟩
end Go.KD
namespace Go.Proofs.Ytcjcgcgcloanpaa
open Go.RowKit Go.KD
attribute [local go_sem] later_cell later_frozen
set_option maxHeartbeats 1000000 in
theorem nlKK_c (LF : List Int) (gv gL oL cL x : Nat) (hx : x < 6) (hl : LF.length = 6) (W : World) (hc : W.cell? ⟨gv, 0, none⟩ = some (.slice (some ⟨gL, oL, none⟩) 6 cL)) (hI : IC W (some ⟨gL, oL, none⟩) LF) :
    Calls Try.prog 152 #[.int .i64 x, .pointer (some ⟨gv, 0, none⟩)] W fun e w' => e = .returned (.bool (lackP LF x)) ∧ Below W.heap.size W w' := by
  have hx6 : (x : Int) < 6 := by omega
  have hx0 : (0 : Int) ≤ (x : Int) := by omega
  obtain ⟨b, off, y, ha, HY, hbs, e0⟩ := hI.at x (by omega)
  cases ha
  have HP : Hid (lackP LF x = decide (y = 0)) := by show _ = _; unfold lackP; rw [Int.toNat_natCast, HY.out]
  clear hl
  go_enter Try.func152, Try.ntmps152
  go_wp2
  go_ret
  exact ⟨ret_bool (by rw [HP.out]; rfl), Below.refl _ _⟩
set_option maxRecDepth 100000 in
set_option maxHeartbeats 8000000 in
theorem nlK_c (m : Mz) (O N : Nat) (LF : List Int) (gm go gn gv gL cd cL k : Nat) (ad : Option Addr) (p : Bool) (hk : k < m.doors.length) (ok : MzOk m) (hN : N < 4096) (hO : O < 1073741824) (hl : LF.length = 6) (W : World)
    (hp : ∀ xn yn zn : Nat, m.doors[k]! = ((xn : Int), (yn : Int), (zn : Int)) → p = !(!O.testBit k && (N.testBit xn || N.testBit yn) && !(anyP (lackP LF) (mem zn))))
    (hd : D3C W ad m.doors) (h1 : W.cell? ⟨gm, 1, none⟩ = some (.slice ad m.doors.length cd)) (h2 : W.cell? ⟨go, 0, none⟩ = some (.int .i64 O)) (h3 : W.cell? ⟨gn, 0, none⟩ = some (.int .i64 N)) (h4 : W.cell? ⟨gv, 0, none⟩ = some (.slice (some ⟨gL, 0, none⟩) 6 cL)) (hI : IC W (some ⟨gL, 0, none⟩) LF)
    (g1 : gm < W.heap.size) (g2 : go < W.heap.size) (g3 : gn < W.heap.size) (g4 : gv < W.heap.size) :
    Calls Try.prog 150 #[.int .i64 k, .pointer (some ⟨gm, 0, none⟩), .pointer (some ⟨go, 0, none⟩), .pointer (some ⟨gn, 0, none⟩), .pointer (some ⟨gv, 0, none⟩)] W fun e w' => e = .returned (.bool p) ∧ Below W.heap.size W w' := by
  have hkI : (k : Int) < (m.doors.length : Int) := by omega
  have hng : m.doors.length ≤ 30 := ok.nd
  have hk63 : (k : Int) < 64 := by omega
  obtain ⟨b, off, x0, y0, z0, hadx, HX, hbs, e0, e1, e2⟩ := hd.at k hk
  subst hadx
  obtain ⟨f1, f2, f3, f4, f5⟩ := door_facts ok hk HX.out
  obtain ⟨xn, rfl⟩ := Int.eq_ofNat_of_zero_le f1
  obtain ⟨yn, rfl⟩ := Int.eq_ofNat_of_zero_le (show 0 ≤ y0 by omega)
  obtain ⟨zn, rfl⟩ := Int.eq_ofNat_of_zero_le f4
  have hs2 : m.size ≤ 12 := ok.s2
  have HP := Lib.hid (hp xn yn zn HX.out)
  obtain ⟨pX, HPX, ep, hpx⟩ := shl_at xn (by omega)
  obtain ⟨qX, HQX, eq, hqx⟩ := shl_at yn (by omega)
  have hx0 : (xn : Int) < 12 := by omega
  have hy0 : (yn : Int) < 12 := by omega
  have HZ0 : Hid ((N.testBit xn || N.testBit yn) = false → N &&& (pX ||| qX) = 0) := by rw [HPX.out, HQX.out]; exact and_two
  have HZ1 : Hid ((N.testBit xn || N.testBit yn) = true → N &&& (pX ||| qX) ≠ 0) := by rw [HPX.out, HQX.out]; exact and_two'
  have hpq : pX ||| qX < 4096 := Nat.or_lt_two_pow (n := 12) hpx hqx
  have eo : bits .or .i64 (pX : Int) (qX : Int) = ((pX ||| qX : Nat) : Int) := i64_or pX qX (by omega) (by omega)
  obtain ⟨bN, hbN⟩ : ∃ bN, bN = pX ||| qX := ⟨_, rfl⟩
  rw [← hbN] at hpq eo HZ0 HZ1
  have ea : bits .and .i64 (N : Int) (bN : Int) = ((N &&& bN : Nat) : Int) := i64_and N bN (by omega) (by omega)
  obtain ⟨tN, htN⟩ : ∃ tN, tN = N &&& bN := ⟨_, rfl⟩
  rw [← htN] at ea HZ0 HZ1
  clear hbN htN hp
  obtain ⟨y, HY, ey⟩ := shr_at O k
  have hy : y < 1099511627776 := by
    have := HY.out; rw [Nat.shiftRight_eq_div_pow] at *; have := Nat.div_le_self O (2 ^ k); omega
  have eb : bits .and .i64 (y : Int) 1 = ((y % 2 : Nat) : Int) := and1 hy
  have hb1 := bit_shr O k
  rw [← HY.out] at hb1
  rw [hb1] at eb
  clear hb1 hy
  obtain ⟨pa, hpa⟩ : ∃ pa, pa = (N.testBit xn || N.testBit yn) := ⟨_, rfl⟩
  rw [← hpa] at HP HZ0 HZ1
  obtain ⟨ob, hob⟩ : ∃ ob, ob = O.testBit k := ⟨_, rfl⟩
  rw [← hob] at HP eb
  have HI := Lib.hid hI
  have HL := Lib.hid hl
  have hz64 : zn < 64 := by omega
  clear hpa hob hd hI hl ok
  cases ob
  case true =>
    simp only [if_true] at eb
    have HPT : Hid (p = true) := by show _ = _; rw [HP.out]; rfl
    go_enter Try.func150, Try.ntmps150
    go_wp2
    go_quiet (fail)
    go_wp2
    go_ret
    exact ⟨ret_bool (by rw [HPT.out]), below_drewN (by (repeat (first | exact Below.refl _ _ | apply Below.drew | apply below_drewN | (refine Below.setCell ?_ (by first | omega | (simp; done) | (simp; omega) | (dsimp only; omega)) _) | (refine Below.alloc ?_ (by first | omega | (simp; done) | (simp; omega) | (dsimp only; omega)) _)))) _⟩
  case false =>
    simp only [Bool.false_eq_true, if_false] at eb
    cases pa
    case false =>
      have ht0 := HZ0.out rfl
      subst ht0
      have HPT : Hid (p = true) := by show _ = _; rw [HP.out]; rfl
      go_enter Try.func150, Try.ntmps150
      go_wp2
      go_quiet (fail)
      go_wp2
      go_ret
      exact ⟨ret_bool (by rw [HPT.out]), below_drewN (by (repeat (first | exact Below.refl _ _ | apply Below.drew | apply below_drewN | (refine Below.setCell ?_ (by first | omega | (simp; done) | (simp; omega) | (dsimp only; omega)) _) | (refine Below.alloc ?_ (by first | omega | (simp; done) | (simp; omega) | (dsimp only; omega)) _)))) _⟩
    case true =>
      have ht0 : tN ≠ 0 := HZ1.out rfl
      have ht1 : ((tN : Int) == 0) = false := by simpa using ht0
      have ht2 : decide (tN = 0) = false := by simpa using ht0
      have HPT : Hid (p = anyP (lackP LF) (mem zn)) := by show _ = _; rw [HP.out]; simp
      have HML := Lib.hid (mem_len40z zn)
      go_enter Try.func150, Try.ntmps150
      go_wp2
      have hb0 : Below W.heap.size W (W.alloc (.cells #[.int .i64 xn, .int .i64 yn, .int .i64 zn] 39)).drew := ((Below.refl _ _).alloc (Nat.le_refl _) _).drew
      have HB0 := Lib.hid hb0
      have q2 : (W.alloc (.cells #[.int .i64 xn, .int .i64 yn, .int .i64 zn] 39)).drew.cell? ⟨go, 0, none⟩ = some (.int .i64 O) := (hb0.cell (p := ⟨go, 0, none⟩) g2).trans h2
      have q3 : (W.alloc (.cells #[.int .i64 xn, .int .i64 yn, .int .i64 zn] 39)).drew.cell? ⟨gn, 0, none⟩ = some (.int .i64 N) := (hb0.cell (p := ⟨gn, 0, none⟩) g3).trans h3
      have hbx : Below (W.heap.size + 1) (W.alloc (.cells #[.int .i64 xn, .int .i64 yn, .int .i64 zn] 39)) (W.alloc (.cells #[.int .i64 xn, .int .i64 yn, .int .i64 zn] 39)).drew := (Below.refl _ _).drew
      obtain ⟨q4, q5, q6, z1⟩ := box3 hbx (by omega)
      clear hbx hb0
      go_region_held3 (fun V => V.cell? ⟨go, 0, none⟩ = some (.int .i64 O) ∧ V.cell? ⟨gn, 0, none⟩ = some (.int .i64 N) ∧ V.cell? ⟨W.heap.size, 0, none⟩ = some (.int .i64 xn) ∧ V.cell? ⟨W.heap.size, 1, none⟩ = some (.int .i64 yn) ∧ V.cell? ⟨W.heap.size, 2, none⟩ = some (.int .i64 zn))
        (first | exact ⟨q2, q3, q4, q5, q6⟩ | exact ⟨r2, r3, r4, r5, r6⟩ | exact ⟨s2, s3, s4, s5, s6⟩)
        (first
          | (go_at_call 77; refine (members_c zn (by omega) _).mono ?_; rintro e w2 ⟨v2, rfl, ho2, hb2⟩; obtain ⟨a2, c2, rfl, -, hi2⟩ := (Own.of ho2).ic; have HB2 : Hid (Below W.heap.size W w2) := Below.trans (by (repeat (first | exact Below.refl _ _ | apply Below.drew | apply below_drewN | (refine Below.setCell ?_ (by first | omega | (simp; done) | (simp; omega) | (dsimp only; omega)) _) | (refine Below.alloc ?_ (by first | omega | (simp; done) | (simp; omega) | (dsimp only; omega)) _)))) (hb2.mono (by simp)); have HI2 := Lib.hid hi2; have r2 : w2.cell? ⟨go, 0, none⟩ = some (.int .i64 O) := (HB2.out.cell (p := ⟨go, 0, none⟩) g2).trans h2; have r3 : w2.cell? ⟨gn, 0, none⟩ = some (.int .i64 N) := (HB2.out.cell (p := ⟨gn, 0, none⟩) g3).trans h3; have hb2' : Below (W.heap.size + 1) (W.alloc (.cells #[.int .i64 xn, .int .i64 yn, .int .i64 zn] 39)) w2 := Below.trans (by (repeat (first | exact Below.refl _ _ | apply Below.drew | apply below_drewN | (refine Below.setCell ?_ (by first | omega | (simp; done) | (simp; omega) | (dsimp only; omega)) _) | (refine Below.alloc ?_ (by first | omega | (simp; done) | (simp; omega) | (dsimp only; omega)) _)))) (hb2.mono (by simp)); obtain ⟨r4, r5, r6, z2⟩ := box3 hb2' (by omega); clear ho2 hi2 hb2 hb2')
          | (go_at_call 151; refine (containsFunc_c 152 Try.f152 Try.func152 (by kernel_rfl) rfl _ (lackP LF) _ _ _ (mem zn) _ rfl HI2.out (by have := HML.out; omega) (fun j xx hj hxx w' hb' => by obtain ⟨i, _, hbi, hei⟩ := (in_mem zn xx).1 (by rw [← hxx, getElem!_pos _ j hj]; exact List.getElem_mem hj); subst hei; exact nlKK_c LF gv gL 0 cL i (bit_lt (n := 6) hz64 hbi) HL.out w' (((HB2.out.trans (hb'.mono HB2.out.size)).cell (p := ⟨gv, 0, none⟩) g4).trans h4) (HI.out.later (HB2.out.trans (hb'.mono HB2.out.size))))).mono ?_; rintro e w3 ⟨rfl, hb3⟩; have HB3 : Hid (Below W.heap.size W w3) := HB2.out.trans (hb3.mono HB2.out.size); have s2 : w3.cell? ⟨go, 0, none⟩ = some (.int .i64 O) := (HB3.out.cell (p := ⟨go, 0, none⟩) g2).trans h2; have s3 : w3.cell? ⟨gn, 0, none⟩ = some (.int .i64 N) := (HB3.out.cell (p := ⟨gn, 0, none⟩) g3).trans h3; have s4 := (hb3.cell (p := ⟨W.heap.size, 0, none⟩) z2).trans r4; have s5 := (hb3.cell (p := ⟨W.heap.size, 1, none⟩) z2).trans r5; have s6 := (hb3.cell (p := ⟨W.heap.size, 2, none⟩) z2).trans r6; clear hb3))
      all_goals
        go_wp2
        go_ret
        exact ⟨ret_bool (by rw [HPT.out]), HB3.out⟩
end Go.Proofs.Ytcjcgcgcloanpaa

namespace Go.KD
open Go.RowKit
/-- What the closure of nextLocks reads. -/
structure NLS (W : World) (lo gm go gn gv gL : Nat) (ad : Option Addr) (nd cd cL : Nat) (O N : Nat) (LF : List Int) : Prop where
  m : W.cell? ⟨gm, 1, none⟩ = some (.slice ad nd cd)
  o : W.cell? ⟨go, 0, none⟩ = some (.int .i64 O)
  n : W.cell? ⟨gn, 0, none⟩ = some (.int .i64 N)
  v : W.cell? ⟨gv, 0, none⟩ = some (.slice (some ⟨gL, 0, none⟩) 6 cL)
  L : IC W (some ⟨gL, 0, none⟩) LF
  sm : gm < W.heap.size
  so : go < W.heap.size
  sn : gn < W.heap.size
  sv : gv < W.heap.size
  sL : gL < W.heap.size
theorem NLS.later {W W' : World} {lo gm go gn gv gL nd cd cL O N : Nat} {ad : Option Addr} {LF : List Int} (h : NLS W lo gm go gn gv gL ad nd cd cL O N LF) (hb : Below W.heap.size W W') : NLS W' lo gm go gn gv gL ad nd cd cL O N LF := by
  have := hb.size
  exact ⟨(hb.cell (p := ⟨gm, 1, none⟩) h.sm).trans h.m, (hb.cell (p := ⟨go, 0, none⟩) h.so).trans h.o, (hb.cell (p := ⟨gn, 0, none⟩) h.sn).trans h.n, (hb.cell (p := ⟨gv, 0, none⟩) h.sv).trans h.v, h.L.later hb, Nat.lt_of_lt_of_le h.sm this, Nat.lt_of_lt_of_le h.so this, Nat.lt_of_lt_of_le h.sn this, Nat.lt_of_lt_of_le h.sv this, Nat.lt_of_lt_of_le h.sL this⟩
/-- Blocks at or above `q` may change. -/
theorem NLS.below {W W' : World} {lo q gm go gn gv gL nd cd cL O N : Nat} {ad : Option Addr} {LF : List Int} (h : NLS W lo gm go gn gv gL ad nd cd cL O N LF) (hb : Below q W W') (h1 : gm < q) (h2 : go < q) (h3 : gn < q) (h4 : gv < q) (h5 : gL < q) : NLS W' lo gm go gn gv gL ad nd cd cL O N LF := by
  have := hb.size
  refine ⟨(hb.cell (p := ⟨gm, 1, none⟩) h1).trans h.m, (hb.cell (p := ⟨go, 0, none⟩) h2).trans h.o, (hb.cell (p := ⟨gn, 0, none⟩) h3).trans h.n, (hb.cell (p := ⟨gv, 0, none⟩) h4).trans h.v, fun k hk => ?_, Nat.lt_of_lt_of_le h.sm this, Nat.lt_of_lt_of_le h.so this, Nat.lt_of_lt_of_le h.sn this, Nat.lt_of_lt_of_le h.sv this, Nat.lt_of_lt_of_le h.sL this⟩
  obtain ⟨b, off, ha, hbs, hc⟩ := h.L k hk
  cases ha
  exact ⟨gL, 0, rfl, Nat.lt_of_lt_of_le h.sL this, (hb.cell (p := ⟨gL, 0 + k, none⟩) h5).trans hc⟩
theorem ic_set {W : World} {g off : Nat} {L : List Int} {a : Addr} (h : IC W (some ⟨g, off, none⟩) L) (hne : a.block ≠ g) (u : Value) : IC (W.setCell a u) (some ⟨g, off, none⟩) L := by
  intro k hk
  obtain ⟨b, o, ha, hbs, hc⟩ := h k hk
  cases ha
  exact ⟨g, off, rfl, by simpa using hbs, by rw [World.cell?_setCell_other _ _ _ _ (fun e => hne (by first | exact congrArg Addr.block e | exact (congrArg Addr.block e).symm))]; exact hc⟩
theorem bits_lt30 {O : Nat} (h : ∀ i, O.testBit i = true → i < 30) : O < 1073741824 := by
  rw [show 1073741824 = 2 ^ 30 from rfl]
  refine Nat.lt_pow_two_of_testBit O fun i hi => ?_
  cases hb : O.testBit i
  · rfl
  · have := h i hb; omega
end Go.KD
namespace Go.Proofs.Ytcjcgcgcloanpaa
open Go.RowKit Go.KD
attribute [local go_sem] later_cell later_frozen
set_option maxRecDepth 100000 in
set_option maxHeartbeats 8000000 in
theorem nextLocks_c (v : Value) (m : Mz) (O : Nat) (L : List Int) (w : World) (hm : MzAt w v m) (ok : MzOk m) (hop : OpOk m O L) : Calls Try.prog 83 #[v, .int .i64 O] w fun e w' =>
    ∃ u, e = .returned u ∧ Own w.heap.size w'.heap.size w' 3 1 u (nextL m O L).length (ints (nextL m O L)) ∧ Below w.heap.size w w' := by
  have hM := hm
  obtain ⟨⟨ad, cd, ak, ck, rfl, hd, hk'⟩, nd, nk⟩ := hM
  have hng : m.doors.length ≤ 30 := ok.nd
  have hO : O < 1073741824 := bits_lt30 fun i hi => Nat.lt_of_lt_of_le (hop.lt i hi) hng
  have hop2 := op_ofMem hop
  have HNL := Lib.hid (nextL_perm hop)
  rw [← HNL.out]
  have HLT := Lib.hid hop2.lt
  have HOP := Lib.hid hop2
  have HNE := Lib.hid (next_keep m O (mem O))
  have HNIN := Lib.hid ((nearN_in ok O).lt ok)
  have OK := Lib.hid ok
  have HLK := Lib.hid (locksK_len m.doors m.doors.length)
  clear ok hop hop2 HNL
  go_enter Try.func83, Try.ntmps83
  go_upto_region 1 with fail
  go_cut [5, 6] (fun s5 s6 wx => ∃ gn gv gL cL : Nat, s5 = .pointer (some ⟨gn, 0, none⟩) ∧ s6 = .pointer (some ⟨gv, 0, none⟩) ∧ Hid (NLS wx w.heap.size w.heap.size (w.heap.size + 1) gn gv gL ad m.doors.length cd cL O (nearN m O) (leftL m (nearN m O) (mem O)) ∧ Below w.heap.size w wx ∧ wx.cell? ⟨w.heap.size, 0, none⟩ = some (.int .i64 m.size) ∧ wx.cell? ⟨w.heap.size, 2, none⟩ = some (.slice ak m.keys.length ck)))
  case first =>
    obtain ⟨wo, hwo⟩ : ∃ wo, wo = ((w.alloc (.cells #[.int .i64 m.size, .slice ad m.doors.length cd, .slice ak m.keys.length ck] 27)).alloc (.cells #[.int .i64 O] 3)) := ⟨_, rfl⟩
    have q0 : wo.cell? ⟨w.heap.size, 0, none⟩ = some (.int .i64 m.size) := by rw [hwo]; simp [go_sem]
    have q1 : wo.cell? ⟨w.heap.size, 1, none⟩ = some (.slice ad m.doors.length cd) := by rw [hwo]; simp [go_sem]
    have q2 : wo.cell? ⟨w.heap.size, 2, none⟩ = some (.slice ak m.keys.length ck) := by rw [hwo]; simp [go_sem]
    have q3 : wo.cell? ⟨w.heap.size + 1, 0, none⟩ = some (.int .i64 O) := by rw [hwo]; simp [go_sem]
    have hwz : w.heap.size + 2 ≤ wo.heap.size := by rw [hwo]; simp
    have HB0 : Hid (Below w.heap.size w wo) := by rw [hwo]; exact Below.alloc (Below.alloc (Below.refl _ _) (by omega) _) (by simp) _
    rw [← hwo]
    clear hwo
    have HS : Hid (∀ W, Below (w.heap.size + 2) wo W → W.cell? ⟨w.heap.size, 0, none⟩ = some (.int .i64 m.size) ∧ W.cell? ⟨w.heap.size, 1, none⟩ = some (.slice ad m.doors.length cd) ∧ W.cell? ⟨w.heap.size, 2, none⟩ = some (.slice ak m.keys.length ck) ∧ W.cell? ⟨w.heap.size + 1, 0, none⟩ = some (.int .i64 O)) := fun W hW => ⟨(hW.cell (p := ⟨w.heap.size, 0, none⟩) (by simp)).trans q0, (hW.cell (p := ⟨w.heap.size, 1, none⟩) (by simp)).trans q1, (hW.cell (p := ⟨w.heap.size, 2, none⟩) (by simp)).trans q2, (hW.cell (p := ⟨w.heap.size + 1, 0, none⟩) (by simp)).trans q3⟩
    clear q0 q1 q2 q3
    go_region_held3 (fun W => W.cell? ⟨w.heap.size, 0, none⟩ = some (.int .i64 m.size) ∧ W.cell? ⟨w.heap.size, 1, none⟩ = some (.slice ad m.doors.length cd) ∧ W.cell? ⟨w.heap.size, 2, none⟩ = some (.slice ak m.keys.length ck) ∧ W.cell? ⟨w.heap.size + 1, 0, none⟩ = some (.int .i64 O))
      (first | exact HS.out _ (by repeat (first | exact Below.refl _ _ | exact HB3.out | exact HB2.out | apply Below.drew | apply below_drewN | (refine Below.setCell ?_ (by first | omega | (simp; done) | (simp; omega) | (dsimp only; omega)) _) | (refine Below.alloc ?_ (by first | omega | (simp; done) | (simp; omega) | (dsimp only; omega)) _))))
      (first
        | (go_at_call 78; refine (near_c _ m O _ (hm.later (HB0.out.trans (Below.mono (B := w.heap.size + 2) (by repeat (first | exact Below.refl _ _ | apply Below.drew | apply below_drewN | (refine Below.setCell ?_ (by first | omega | (simp; done) | (simp; omega) | (dsimp only; omega)) _) | (refine Below.alloc ?_ (by first | omega | (simp; done) | (simp; omega) | (dsimp only; omega)) _))) (by omega)))) OK.out hO).mono ?_; rintro e w2 ⟨rfl, hb2⟩; have HB2 : Hid (Below (w.heap.size + 2) wo w2) := Below.trans (by repeat (first | exact Below.refl _ _ | apply Below.drew | apply below_drewN | (refine Below.setCell ?_ (by first | omega | (simp; done) | (simp; omega) | (dsimp only; omega)) _) | (refine Below.alloc ?_ (by first | omega | (simp; done) | (simp; omega) | (dsimp only; omega)) _))) (hb2.mono (by first | omega | (simp; omega))); have hz2 := HB2.out.size; obtain ⟨hc2, hf2, hs2⟩ := bcell3 hb2; (try simp only [World.size_alloc, World.size_drew] at hs2 hc2 hf2); (try have l20 : wo.heap.size < w2.heap.size := by omega); (try have l21 : wo.heap.size + 1 < w2.heap.size := by omega); clear hb2)
        | (go_at_call 81; refine (keysLeft_c _ m O _ (hm.later (HB0.out.trans (Below.mono (B := w.heap.size + 2) (by repeat (first | exact Below.refl _ _ | exact HB2.out | apply Below.drew | apply below_drewN | (refine Below.setCell ?_ (by first | omega | (simp; done) | (simp; omega) | (dsimp only; omega)) _) | (refine Below.alloc ?_ (by first | omega | (simp; done) | (simp; omega) | (dsimp only; omega)) _))) (by omega)))) OK.out hO HLT.out).mono ?_; rintro e w3 ⟨u3, rfl, ho3, hb3⟩; have HB3 : Hid (Below (w.heap.size + 2) wo w3) := Below.trans (by repeat (first | exact Below.refl _ _ | exact HB2.out | apply Below.drew | apply below_drewN | (refine Below.setCell ?_ (by first | omega | (simp; done) | (simp; omega) | (dsimp only; omega)) _) | (refine Below.alloc ?_ (by first | omega | (simp; done) | (simp; omega) | (dsimp only; omega)) _))) (hb3.mono (by first | omega | (simp; omega))); obtain ⟨gL, cL, rfl, -, -⟩ := own_someD ho3 (by omega); obtain ⟨hc3, hf3, hz3⟩ := bcell3 hb3; have hgl := own_block_lo ho3 (g := gL) rfl; have hgh := (Own.of ho3).top gL rfl; have HI3 : Hid (IC w3 (some ⟨gL, 0, none⟩) (leftL m (nearN m O) (mem O))) := ic_of' (Own.of ho3) (by simp); (try simp only [World.size_alloc, World.size_drew] at hz3 hgl hc3 hf3); (try have l30 : wo.heap.size < w3.heap.size := by omega); (try have l31 : wo.heap.size + 1 < w3.heap.size := by omega); (try have l32 : w2.heap.size < w3.heap.size := by omega); (try have l33 : w2.heap.size + 1 < w3.heap.size := by omega); clear hb3 ho3))
    all_goals
      go_wp2_with fail
      go_meet
      case rel =>
        refine ⟨_, _, gL, cL, rfl, rfl, (⟨⟨(HS.out _ (by repeat (first | exact Below.refl _ _ | exact HB3.out | exact HB2.out | apply Below.drew | apply below_drewN | (refine Below.setCell ?_ (by first | omega | (simp; done) | (simp; omega) | (dsimp only; omega)) _) | (refine Below.alloc ?_ (by first | omega | (simp; done) | (simp; omega) | (dsimp only; omega)) _)))).2.1, (HS.out _ (by repeat (first | exact Below.refl _ _ | exact HB3.out | exact HB2.out | apply Below.drew | apply below_drewN | (refine Below.setCell ?_ (by first | omega | (simp; done) | (simp; omega) | (dsimp only; omega)) _) | (refine Below.alloc ?_ (by first | omega | (simp; done) | (simp; omega) | (dsimp only; omega)) _)))).2.2.2, ?_, ?_, ?_, ?_, ?_, ?_, ?_, ?_⟩, HB0.out.trans (Below.mono (B := w.heap.size + 2) (by repeat (first | exact Below.refl _ _ | exact HB3.out | exact HB2.out | apply Below.drew | apply below_drewN | (refine Below.setCell ?_ (by first | omega | (simp; done) | (simp; omega) | (dsimp only; omega)) _) | (refine Below.alloc ?_ (by first | omega | (simp; done) | (simp; omega) | (dsimp only; omega)) _))) (by omega)), (HS.out _ (by repeat (first | exact Below.refl _ _ | exact HB3.out | exact HB2.out | apply Below.drew | apply below_drewN | (refine Below.setCell ?_ (by first | omega | (simp; done) | (simp; omega) | (dsimp only; omega)) _) | (refine Below.alloc ?_ (by first | omega | (simp; done) | (simp; omega) | (dsimp only; omega)) _)))).1, (HS.out _ (by repeat (first | exact Below.refl _ _ | exact HB3.out | exact HB2.out | apply Below.drew | apply below_drewN | (refine Below.setCell ?_ (by first | omega | (simp; done) | (simp; omega) | (dsimp only; omega)) _) | (refine Below.alloc ?_ (by first | omega | (simp; done) | (simp; omega) | (dsimp only; omega)) _)))).2.2.1⟩ : _ ∧ _ ∧ _ ∧ _)⟩
        all_goals first | (simp [go_sem, *]; done) | (simp; omega) | (have := HB3.out.size; simp; omega) | (refine World.cell?_setCell_same' _ _ _ ?_; exact (by repeat (first | (simp [go_sem]; done) | (simp; done) | (rw [hc3]; rotate_left; exact (by first | (simp; done) | (simp; omega) | omega)) | (rw [hc2]; rotate_left; exact (by first | (simp; done) | (simp; omega) | omega)) | (rw [World.cell?_setCell_far]; rotate_left; exact (by first | (simp; done) | (simp; omega) | omega)) | (rw [World.cell?_alloc_lt]; rotate_left; exact (by first | (simp; done) | (simp; omega) | omega))))) | (rw [World.cell?_setCell_far _ _ _ _ (by first | (simp; done) | (simp; omega))]; refine World.cell?_setCell_same' _ _ _ ?_; exact (by repeat (first | (simp [go_sem]; done) | (simp; done) | (rw [hc3]; rotate_left; exact (by first | (simp; done) | (simp; omega) | omega)) | (rw [hc2]; rotate_left; exact (by first | (simp; done) | (simp; omega) | omega)) | (rw [World.cell?_setCell_far]; rotate_left; exact (by first | (simp; done) | (simp; omega) | omega)) | (rw [World.cell?_alloc_lt]; rotate_left; exact (by first | (simp; done) | (simp; omega) | omega))))) | (repeat (first | exact HI3.out | (refine ic_set ?_ (by first | (simp; done) | (simp; omega)) _) | (refine IC.later ?_ ((Below.refl _ _).alloc (Nat.le_refl _) _))))
  case rest =>
    obtain ⟨gn, gv, gL, cL, rfl, rfl, HC⟩ := hcut
    obtain ⟨hn, hb, r0, r2⟩ := HC.out
    have r1 := hn.m
    have HN := Lib.hid hn
    have HB := Lib.hid hb
    have hz1 := hn.sm
    have hz2 := hn.so
    have hz3 := hn.sn
    have hz4 := hn.sv
    have hz5 := hn.sL
    clear HC hn hb
    go_wp2_with fail
    refine (locks_c _ m _ (hm.later HB.out)).mono ?_
    rintro e w3 ⟨u3, rfl, ho3, hb3⟩
    have HO3 : Hid (Own wc.heap.size w3.heap.size w3 3 1 u3 (locksI m).length (ints (locksI m))) := Own.of ho3
    obtain ⟨a3, c3, rfl⟩ := own_slice ho3
    have HN3 := Lib.hid (HN.out.later hb3)
    have HB3 := Lib.hid (below_then HB.out hb3)
    have hz := hb3.size
    have HB4 := Lib.hid hb3
    clear ho3 hb3
    go_wp2_with fail
    refine (deleteFunc_c 150 Try.f150 Try.func150 (by kernel_rfl) rfl _ (skipP m O (mem O)) wc.heap.size w3.heap.size 3 _ _ _ (locksI m) _ rfl HO3.out (Nat.le_refl _) (by have := HLK.out; show (locksK m.doors m.doors.length).length ≤ _; omega) (fun j x hj hx w' hch => ?_)).mono ?_
    · obtain ⟨k, hk1, hk2⟩ := locks_at hj
      rw [hk1] at hx
      subst hx
      have hbq : Below wc.heap.size w3 w' := hch.below (Nat.le_refl _) hz
      have hn' := HN3.out.below hbq hz1 hz2 hz3 hz4 hz5
      exact nlK_c m O (nearN m O) (leftL m (nearN m O) (mem O)) w.heap.size (w.heap.size + 1) gn gv gL cd cL k ad (skipP m O (mem O) k) hk2 OK.out HNIN.out hO (by simp) w' (fun xn yn zn hX => by unfold skipP; rw [Int.toNat_natCast, canK_lack HOP.out (by have := door_facts OK.out hk2 hX; omega) hX]) (hd.later ((below_then HB.out HB4.out).trans (hbq.mono (by have := HB.out.size; omega)))) hn'.m hn'.o hn'.n hn'.v hn'.L hn'.sm hn'.so hn'.sn hn'.sv
    · rintro e w4 ⟨u4, rfl, ho4, hc4⟩
      rw [HNE.out] at ho4
      go_wp2_with fail
      go_ret
      exact ⟨_, rfl, ho4.mono (by have := HB.out.size; omega) hc4.size, HB3.out.trans (hc4.below (by have := HB.out.size; omega) (by have := HB3.out.size; omega))⟩
end Go.Proofs.Ytcjcgcgcloanpaa

namespace Go.KD
open Go.RowKit
def opsB (m : Mz) (L : List Int) : Bool := (opK m L L.length).isSome
def opN (m : Mz) (L : List Int) : Nat := (opK m L L.length).getD 0
theorem opK_step {m : Mz} {L : List Int} {i O : Nat} (h : opK m L i = some O) : opK m L (i + 1) = if hasI (nextL m O (L.take i)) L[i]! then some (setN O L[i]!) else none := by
  show (match opK m L i with | none => none | some O => if hasI (nextL m O (L.take i)) L[i]! then some (setN O L[i]!) else none) = _
  rw [h]
theorem ops_stop {m : Mz} {L : List Int} {i O : Nat} (hi : i < L.length) (h : opK m L i = some O) (hf : hasI (nextL m O (L.take i)) L[i]! = false) : opK m L L.length = none := by
  have h1 : opK m L (i + 1) = none := by rw [opK_step h, hf]; rfl
  have := opK_none h1 (L.length - (i + 1))
  rwa [show i + 1 + (L.length - (i + 1)) = L.length from by omega] at this
theorem next_nat {m : Mz} {O : Nat} {L : List Int} {x : Int} (h : hasI (nextL m O L) x = true) : ∃ j : Nat, x = (j : Int) ∧ j < m.doors.length := by
  rw [hasI_iff] at h
  obtain ⟨k, hk, _, _, rfl⟩ := in_nextK.1 h
  exact ⟨k, rfl, hk⟩
theorem op_len {m : Mz} (ok : MzOk m) {O : Nat} {L : List Int} (h : OpOk m O L) : L.length ≤ 30 := by
  have hp : L.Perm (mem O) := (List.perm_ext_iff_of_nodup h.nd ((Go.KD.mem_sorted O).imp fun h => by omega)).2 h.mem
  rw [hp.length_eq]
  have hO := bits_lt30 fun i hi => Nat.lt_of_lt_of_le (h.lt i hi) ok.nd
  unfold mem memN
  rw [List.length_map]
  have : (List.range 40).filter (fun i => O.testBit i) = (List.range 30).filter (fun i => O.testBit i) := by
    rw [show (40 : Nat) = 30 + 10 from rfl, List.range_add, List.filter_append]
    have : (List.map (fun x => 30 + x) (List.range 10)).filter (fun i => O.testBit i) = [] := by
      rw [List.filter_eq_nil_iff]
      intro x hx hb
      simp only [List.mem_map, List.mem_range] at hx
      obtain ⟨a, _, rfl⟩ := hx
      have := bit_lt (n := 30) hO hb
      omega
    rw [this, List.append_nil]
  rw [this]
  exact Nat.le_trans (List.length_filter_le _ _) (by simp)
theorem shl_at30 (y : Nat) (hy : y < 30) : ∃ p : Nat, Hid (p = 2 ^ y) ∧ IntKind.i64.wrap (2 ^ y) = (p : Int) ∧ p < 1073741824 := by
  refine ⟨2 ^ y, rfl, ?_, Nat.pow_lt_pow_right (n := 30) (by omega) hy⟩
  have h : 2 ^ y < 2 ^ 30 := Nat.pow_lt_pow_right (by omega) hy
  have e : ((2 ^ y : Nat) : Int) = 2 ^ y := by simp
  rw [← e]
  generalize 2 ^ y = q at h
  rw [IntKind.wrap_i64]; omega
theorem nextL_len (m : Mz) (O : Nat) (L : List Int) : (nextL m O L).length ≤ m.doors.length := nextK_len m O L _
theorem own_caps {lo hi n cap size : Nat} {w : World} {e : TypeId} {a : Option Addr} {xs : List Value} (h : Own lo hi w e size (.slice a n cap) n xs) (hn : 0 < n) : n ≤ cap ∧ cap ≤ maxLen := by
  obtain ⟨g, c, he, h1, h2⟩ := own_someD h.row hn
  cases he; exact ⟨h1, h2⟩
/-- Is the goal near? -/
def wonB (m : Mz) (O : Nat) : Bool := (nearN m O).testBit (m.keys.length - 1)
end Go.KD
namespace Go.Proofs.Ytcjcgcgcloanpaa
open Go.RowKit Go.KD
attribute [local go_sem] later_cell later_frozen
set_option maxRecDepth 100000 in
set_option maxHeartbeats 4000000 in
theorem opening_c (v : Value) (m : Mz) (aL : Option Addr) (cL : Nat) (L : List Int) (w : World) (hm : MzAt w v m) (ok : MzOk m) (hL : IC w aL L) (hLl : L.length ≤ 1048576) : Calls Try.prog 73 #[v, .slice aL L.length cL] w fun e w' =>
    e = .returned (.tuple #[.int .i64 (opN m L), .bool (opsB m L)]) ∧ Below w.heap.size w w' := by
  have hM := hm
  obtain ⟨⟨ad, cd, ak, ck, rfl, hd, hk'⟩, nd, nk⟩ := hM
  have hng : m.doors.length ≤ 30 := ok.nd
  have OK := Lib.hid ok
  clear ok
  go_enter Try.func73, Try.ntmps73
  go_wp2
  go_loopw [6, 11] (fun o i wr => ∃ k O : Nat, k ≤ L.length ∧ i = .int .i64 k ∧ o = .int .i64 O ∧ Hid (opK m L k = some O) ∧ Below (w.heap.size + 1) (w.alloc (.cells #[.int .i64 m.size, .slice ad m.doors.length cd, .slice ak m.keys.length ck] 27)) wr) (fun _ i _ => L.length - (intOf i).toNat)
  case atStart => exact ⟨0, 0, Nat.zero_le _, rfl, rfl, rfl, Below.refl _ _⟩
  case round =>
    obtain ⟨wi, rfl⟩ : ∃ wi : World, wi = wr := ⟨_, rfl⟩
    obtain ⟨k, O, hk, rfl, rfl, HK, hb⟩ := hrel
    obtain ⟨q0, q1, q2, z1⟩ := box3 hb (by omega)
    have HB := Lib.hid (below_box hb (by omega))
    have HBB := Lib.hid hb
    clear hb
    by_cases hlt : k < L.length
    · have hkI : (k : Int) < (L.length : Int) := by omega
      have HOP := Lib.hid (opK_ok OK.out k O hk HK.out)
      obtain ⟨b, off, x, rfl, HX, hbs, e0⟩ := (hL.later HB.out).at k hlt
      have hO : O < 1073741824 := bits_lt30 fun i hi => Nat.lt_of_lt_of_le (HOP.out.lt i hi) hng
      have hbz : ∀ w2, Below wi.heap.size wi w2 → wi.heap.size ≤ w2.heap.size := fun w2 h => h.size
      go_wp2_with fail
      refine (nextLocks_c _ m O (L.take k) _ (hm.later HB.out) OK.out HOP.out).mono ?_
      rintro e w2 ⟨u2, rfl, ho2, hb2⟩
      obtain ⟨a2, c2, rfl, -, hi2⟩ := ho2.ic
      have HB2 := Lib.hid hb2
      have hnl := nextL_len m O (L.take k)
      clear ho2 hb2
      go_wp2_with fail
      refine (contains_c _ _ _ (nextL m O (L.take k)) _ _ rfl hi2 (by omega)).mono ?_
      rintro e w3 ⟨rfl, rfl⟩
      clear hi2 hnl
      cases hh : hasI (nextL m O (L.take k)) x
      case false =>
        have HN : Hid (opK m L L.length = none) := ops_stop hlt HK.out (by rw [HX.out]; exact hh)
        clear hh
        go_wp2
        go_ret2
        refine ⟨?_, below_then HB.out HB2.out⟩
        unfold opN opsB
        rw [HN.out]; rfl
      case true =>
        obtain ⟨j, rfl, hj⟩ := next_nat hh
        obtain ⟨p, HP, ep, hp⟩ := shl_at30 j (by omega)
        have hj30 : (j : Int) < 30 := by omega
        have eo : bits .or .i64 (O : Int) (p : Int) = ((O ||| p : Nat) : Int) := i64_or O p (by omega) (by omega)
        have HN : Hid (opK m L (k + 1) = some (O ||| p)) := by
          show _ = _
          rw [opK_step HK.out, HX.out, hh, HP.out]
          simp [setN]
        clear hh
        go_wp2
        go_roundw
        case rel => exact ⟨k + 1, O ||| p, by omega, by go_num, rfl, HN, HBB.out.trans (HB2.out.mono (by omega))⟩
        case measure => simp [intOf]; omega
    · obtain rfl : k = L.length := by omega
      have HR : Hid (opN m L = O ∧ opsB m L = true) := by
        have := HK.out
        exact ⟨by unfold opN; rw [this]; rfl, by unfold opsB; rw [this]; rfl⟩
      go_wp2
      go_ret2
      exact ⟨by rw [HR.out.1, HR.out.2]; rfl, HB.out⟩
theorem l7NextN_c (v : Value) (m : Mz) (O : Nat) (aL : Option Addr) (cL n : Nat) (L : List Int) (w : World) (hn : n = L.length) (hm : MzAt w v m) (ok : MzOk m) (hL : IC w aL L) (hLl : L.length ≤ 40) (hop : OpOk m O L) : Calls Try.prog 84 #[v, .slice aL n cL] w fun e w' => ∃ u, e = .returned u ∧ w'.ownsRow w.heap.size 3 1 u (nextL m O L).length (ints (nextL m O L)) ∧ Below w.heap.size w w' := by
  subst hn; exact l7Next_c v m O aL cL L w hm ok hL hLl hop
set_option maxRecDepth 100000 in
set_option maxHeartbeats 4000000 in
theorem l7Opening_c (v : Value) (m : Mz) (aL : Option Addr) (cL : Nat) (L : List Int) (w : World) (hm : MzAt w v m) (ok : MzOk m) (hL : IC w aL L) (hLl : L.length ≤ 1048576) (hcap : 0 < L.length → L.length ≤ cL ∧ cL ≤ maxLen) : Calls Try.prog 75 #[v, .slice aL L.length cL] w fun e w' =>
    e = .returned (.bool (opsB m L)) ∧ Below w.heap.size w w' := by
  have hM := hm
  obtain ⟨⟨ad, cd, ak, ck, rfl, hd, hk'⟩, nd, nk⟩ := hM
  have hng : m.doors.length ≤ 30 := ok.nd
  have OK := Lib.hid ok
  have HCAP := Lib.hid hcap
  clear ok hcap
  go_enter Try.func75, Try.ntmps75
  go_wp2
  go_loopw [5] (fun i wr => ∃ k O : Nat, k ≤ L.length ∧ i = .int .i64 k ∧ Hid (opK m L k = some O) ∧ Below (w.heap.size + 1) (w.alloc (.cells #[.int .i64 m.size, .slice ad m.doors.length cd, .slice ak m.keys.length ck] 27)) wr) (fun i _ => L.length - (intOf i).toNat)
  case atStart => exact ⟨0, 0, Nat.zero_le _, rfl, rfl, Below.refl _ _⟩
  case round =>
    obtain ⟨wi, rfl⟩ : ∃ wi : World, wi = wr := ⟨_, rfl⟩
    obtain ⟨k, O, hk, rfl, HK, hb⟩ := hrel
    obtain ⟨q0, q1, q2, z1⟩ := box3 hb (by omega)
    have HB := Lib.hid (below_box hb (by omega))
    have HBB := Lib.hid hb
    clear hb
    by_cases hlt : k < L.length
    · have hkI : (k : Int) < (L.length : Int) := by omega
      obtain ⟨hcl, hcm⟩ := HCAP.out (by omega)
      unfold maxLen at hcm
      have hkc : (k : Int) ≤ (cL : Int) := by omega
      have hk0 : (0 : Int) ≤ (k : Int) := by omega
      have HOP := Lib.hid (opK_ok OK.out k O hk HK.out)
      have hLT : (L.take k).length = k := by simp; omega
      have HL30 : Hid ((L.take k).length ≤ 30) := op_len OK.out HOP.out
      obtain ⟨b, off, x, rfl, HX, hbs, e0⟩ := (hL.later HB.out).at k hlt
      have HLT : Hid (IC wi (some ⟨b, off, none⟩) (L.take k)) := by
        intro j hj
        rw [hLT] at hj
        obtain ⟨b', off', ha, hbs', hc⟩ := (hL.later HB.out) j (by omega)
        refine ⟨b', off', ha, hbs', ?_⟩
        rw [hc, getElem!_pos L j (by omega), getElem!_pos _ j (by rw [hLT]; omega), List.getElem_take]
      have HLN := Lib.hid hLT
      clear hLT
      go_wp2
      have HS : Hid (∀ W, Below wi.heap.size wi W → W.cell? ⟨w.heap.size, 0, none⟩ = some (.int .i64 m.size) ∧ W.cell? ⟨w.heap.size, 1, none⟩ = some (.slice ad m.doors.length cd) ∧ W.cell? ⟨w.heap.size, 2, none⟩ = some (.slice ak m.keys.length ck) ∧ W.cell? ⟨b, off + k, none⟩ = some (.int .i64 x)) := fun W hW => ⟨(hW.cell (p := ⟨w.heap.size, 0, none⟩) z1).trans q0, (hW.cell (p := ⟨w.heap.size, 1, none⟩) z1).trans q1, (hW.cell (p := ⟨w.heap.size, 2, none⟩) z1).trans q2, (hW.cell (p := ⟨b, off + k, none⟩) hbs).trans e0⟩
      go_region_held3 (fun W => W.cell? ⟨w.heap.size, 0, none⟩ = some (.int .i64 m.size) ∧ W.cell? ⟨w.heap.size, 1, none⟩ = some (.slice ad m.doors.length cd) ∧ W.cell? ⟨w.heap.size, 2, none⟩ = some (.slice ak m.keys.length ck) ∧ W.cell? ⟨b, off + k, none⟩ = some (.int .i64 x))
        (exact HS.out _ (by repeat (first | exact Below.refl _ _ | exact HB2.out | apply Below.drew | apply below_drewN | (refine Below.setCell ?_ (by first | omega | (simp; done) | (simp; omega) | (dsimp only; omega)) _) | (refine Below.alloc ?_ (by first | omega | (simp; done) | (simp; omega) | (dsimp only; omega)) _))))
        (first
          | (go_at_call 84; refine (l7NextN_c _ m O _ _ _ (L.take k) _ HLN.out.symm ((hm.later HB.out).later (by repeat (first | exact Below.refl _ _ | apply Below.drew | apply below_drewN | (refine Below.setCell ?_ (by first | omega | (simp; done) | (simp; omega) | (dsimp only; omega)) _) | (refine Below.alloc ?_ (by first | omega | (simp; done) | (simp; omega) | (dsimp only; omega)) _)))) OK.out (HLT.out.later (by repeat (first | exact Below.refl _ _ | apply Below.drew | apply below_drewN | (refine Below.setCell ?_ (by first | omega | (simp; done) | (simp; omega) | (dsimp only; omega)) _) | (refine Below.alloc ?_ (by first | omega | (simp; done) | (simp; omega) | (dsimp only; omega)) _)))) (by have := HL30.out; omega) HOP.out).mono ?_; rintro e w2 ⟨u2, rfl, ho2, hb2⟩; obtain ⟨a2, c2, rfl, -, hi2⟩ := (Own.of ho2).ic; have HB2 : Hid (Below wi.heap.size wi w2) := (Below.refl _ _).drew.trans hb2; clear ho2 hb2)
          | (go_at_call 105; refine (l1Has_c _ _ _ (nextL m O (L.take k)) _ _ rfl hi2 (by have := nextL_len m O (L.take k); omega)).mono ?_; rintro e w3 ⟨rfl, rfl⟩))
      clear hi2 HS
      cases hh : hasI (nextL m O (L.take k)) x
      case false =>
        have HN : Hid (opK m L L.length = none) := ops_stop hlt HK.out (by rw [HX.out]; exact hh)
        clear hh
        go_wp2
        go_ret
        refine ⟨?_, below_then HB.out HB2.out⟩
        unfold opsB
        rw [HN.out]; rfl
      case true =>
        obtain ⟨j, rfl, hj⟩ := next_nat hh
        have HN : Hid (opK m L (k + 1) = some (setN O j)) := by
          show _ = _
          rw [opK_step HK.out, HX.out, hh]
          simp
        clear hh
        go_wp2
        go_roundw
        case rel => exact ⟨k + 1, setN O j, by omega, by go_num, HN, HBB.out.trans (HB2.out.mono (by omega))⟩
        case measure => simp [intOf]; omega
    · obtain rfl : k = L.length := by omega
      have HR : Hid (opsB m L = true) := by
        have := HK.out
        unfold opsB; rw [this]; rfl
      go_wp2
      go_ret
      exact ⟨by rw [HR.out]; rfl, HB.out⟩
end Go.Proofs.Ytcjcgcgcloanpaa

namespace Go.KD
open Go.RowKit
/-- A list that a draw gives, with its block and its room. -/
def PlanC (c n k : Nat) (w : World) (e : Ending) (w' : World) : Prop := ∃ b cp, ∃ L : List Int, e = .returned (.slice (some ⟨b, 0, none⟩) L.length cp) ∧ (∀ w'', Chg 0 w.heap.size w' w'' → IC w'' (some ⟨b, 0, none⟩) L) ∧ L.length ≤ k ∧ (∀ x ∈ L, wfI x) ∧ (L.length ≤ cp ∧ cp ≤ maxLen) ∧ CuW c n w w'
theorem own_roomy {w : World} {base g cap n size : Nat} {e : TypeId} {xs : List Value} (h : w.ownsRow base e size (.slice (some ⟨g, 0, none⟩) n cap) n xs) : n ≤ cap ∧ cap ≤ maxLen := by
  rcases h.2 with ⟨hv, _⟩ | ⟨g', cap', cur, hv, hlo, hh, hn, hm, _⟩
  · cases hv
  · cases hv; exact ⟨hn, hm⟩
/-- What a draw of a maze with more gives. -/
def DMz (w w' : World) (v : Value) (m : Mz) : Prop := (∀ w'', Chg 0 w.heap.size w' w'' → MzAt w'' v m) ∧ (0 ≤ m.size ∧ m.size ≤ 13) ∧ m.doors.length ≤ 40 ∧ m.keys.length ≤ 40 ∧ Below w.heap.size w w'
theorem op_wf {m : Mz} {O : Nat} {L : List Int} (h : OpOk m O L) : ∀ x ∈ L, wfI x := by
  intro x hx
  obtain ⟨i, h1, -, rfl⟩ := (in_mem _ _).1 ((h.mem x).1 hx)
  exact wfI_small (by omega) (by omega)
theorem wf_snoc {L : List Int} {x : Int} (h : ∀ y ∈ L, wfI y) (hx : wfI x) : ∀ y ∈ L ++ [x], wfI y := by
  intro y hy
  rw [List.mem_append] at hy
  rcases hy with hy | hy
  · exact h y hy
  · have : y = x := by simpa using hy
    rw [this]; exact hx
theorem MazeO.st {c n base : Nat} {v : Value} {m : Mz} {w W : World} (h : MazeO base v m W) (h1 : m.doors.length ≤ 40) (h2 : m.keys.length ≤ 40) (hc : c < base) : ∀ w'', Chg c (c + 1) W w'' → MzAt w'' v m :=
  fun w'' hch => h.at h1 h2 w'' (hch.mono (Nat.zero_le _) (by omega))
end Go.KD
namespace Go.Proofs.Ytcjcgcgcloanpaa
open Go.RowKit Go.KD
attribute [local go_sem] later_cell later_frozen
set_option maxRecDepth 100000 in
set_option maxHeartbeats 8000000 in
theorem opening7_c (c n : Nat) (hn : n ≤ 600000) (v : Value) (m : Mz) (w : World) (h : Cu c n w) (hst : ∀ w'', Chg c (c + 1) w w'' → MzAt w'' v m) : Calls Try.prog 71 #[.pointer (some ⟨c, 0, none⟩), v] w (PlanC c (n + 30) 12 w) := by
  obtain ⟨i0, hi, hz0, hz1, hz2⟩ := info_parts infoI
  have HC := Lib.hid h
  have hcz := h.lt
  obtain ⟨⟨ad, cd, ak, ck, rfl, -, -⟩, nd, nk⟩ := hst _ (Chg.refl _ _ _)
  have HST := Lib.hid hst
  clear h hst
  obtain ⟨wb, hwb⟩ : ∃ wb, wb = w.alloc (.cells #[.int .i64 m.size, .slice ad m.doors.length cd, .slice ak m.keys.length ck] 27) := ⟨_, rfl⟩
  have HWB := Lib.hid hwb
  have hsb : wb.heap.size = w.heap.size + 1 := by rw [hwb]; simp
  have HSB := Lib.hid hsb
  have HC0 : Hid (CuW c n w wb) := by show CuW c n w wb; rw [hwb]; exact (CuW.refl HC.out).alloc _
  have HBX : Hid (∀ k W, CuW c k wb W → W.cell? ⟨w.heap.size, 0, none⟩ = some (.int .i64 m.size) ∧ W.cell? ⟨w.heap.size, 1, none⟩ = some (.slice ad m.doors.length cd) ∧ W.cell? ⟨w.heap.size, 2, none⟩ = some (.slice ak m.keys.length ck) ∧ w.heap.size < W.heap.size) := fun k W hW => by
    rw [hwb] at hW
    exact box_at hW hcz
  have HMZ : Hid (∀ k W, CuW c k wb W → MzAt W (.agg #[.int .i64 m.size, .slice ad m.doors.length cd, .slice ak m.keys.length ck]) m) := fun k W hW => HST.out _ (HC0.out.ch.trans hW.ch)
  have HA : Hid (CuW c n wb (wb.alloc (.cells #[] 3))) := (CuW.refl HC0.out.cu).alloc _
  have HR : Hid ((wb.alloc (.cells #[] 3)).ownsRow (w.heap.size + 1) 3 1 (.slice (some ⟨w.heap.size + 1, 0, none⟩) 0 0) 0 (ints [])) := by
    show World.ownsRow _ _ _ _ _ _ _
    rw [← hsb]
    exact World.ownsRow_lit _ _ _ (Nat.le_refl _) (by unfold maxLen; omega) (by rfl)
  have hcr : c < w.heap.size + 1 := by omega
  clear hwb hsb
  go_enter Try.func71, Try.ntmps71
  go_wp2_with fail
  rw [← HWB.out]
  refine (l7Good_c _ m _ (HMZ.out _ _ HA.out)).mono ?_
  rintro e w1 ⟨rfl, hb1⟩
  have HW1 := Lib.hid (HA.out.below hb1 (Nat.le_refl _))
  have HR1 := Lib.hid (own_belowW' HR.out hb1)
  clear hb1 HA HR
  obtain ⟨gb, hgb⟩ : ∃ gb, gb = goodB m := ⟨_, rfl⟩
  rw [← hgb]
  have HGB := Lib.hid hgb
  clear hgb
  cases gb
  · go_wp2_with fail
    go_ret
    exact ⟨_, _, [], rfl, fun w'' hc k hk => absurd hk (Nat.not_lt_zero k), by simp, by simp, own_roomy HR1.out, (HC0.out.trans HW1.out).mono (by omega)⟩
  · have OK : Hid (MzOk m) := by
      show MzOk m
      have := HGB.out
      unfold goodB at this
      have h2 := this.symm
      rw [Bool.and_eq_true] at h2
      exact mazeB_true.1 h2.1
    go_wp2_with fail
    refine (pickJ_c c n 6 6 (by rfl) (by omega) (by omega) (by omega) _ HW1.out.cu).mono ?_
    rintro e w2 ⟨j, rfl, hj, hc2, hu2⟩
    have HW2 : Hid (CuW c (n + 2) wb w2) := HW1.out.trans ⟨hc2, hu2⟩
    have HR2 := Lib.hid (own_chgC HR1.out hc2 hcr)
    clear hc2 hu2 HW1 HR1
    go_wp2_with fail
    go_loopw [6, 5] (fun iv sv wr => ∃ j : Nat, ∃ L : List Int, ∃ O b cp, iv = .int .i64 j ∧ j ≤ 5 ∧ L.length ≤ 5 - j ∧ sv = .slice (some ⟨b, 0, none⟩) L.length cp ∧ Hid (OpOk m O L) ∧ Hid (wr.ownsRow (w.heap.size + 1) 3 1 (.slice (some ⟨b, 0, none⟩) L.length cp) L.length (ints L)) ∧ Hid (CuW c (n + 12 - 2 * j) wb wr)) (fun iv _ _ => (intOf iv).toNat)
    case atStart => exact ⟨j, [], 0, _, _, rfl, by omega, Nat.zero_le _, rfl, op_none OK.out, HR2, HW2.out.mono (by omega)⟩
    case round =>
      clear HW2 HR2 hj
      obtain ⟨wi, rfl⟩ : ∃ wi : World, wi = wr := ⟨_, rfl⟩
      obtain ⟨j, L, O, b, cp, rfl, hj, hL, rfl, HOP, HR, HW⟩ := hrel
      have HI : Hid (IC wi (some ⟨b, 0, none⟩) L) := ic_of' (Own.of HR.out) rfl
      by_cases h0 : 0 < j
      · have h0I : (0 : Int) < (j : Int) := by omega
        obtain ⟨q0, q1, q2, q3⟩ := HBX.out _ _ HW.out
        go_wp2_with fail
        clear q0 q1 q2 q3
        refine (l7Next_c _ m O _ _ L _ (HMZ.out _ _ HW.out) OK.out HI.out (by omega) HOP.out).mono ?_
        obtain ⟨X, hX⟩ : ∃ X, X = nextL m O L := ⟨_, rfl⟩
        rw [← hX]
        have hXl : X.length ≤ 30 := by have h1 := nextL_len m O L; have h2 := OK.out.nd; rw [hX]; omega
        have HX := Lib.hid hX
        clear hX
        rintro e w3 ⟨u, rfl, ho, hb3⟩
        obtain ⟨a3, c3', rfl⟩ := own_slice ho
        have HO3 := Lib.hid ho
        have HW3 := Lib.hid (HW.out.below hb3 (Nat.le_refl _))
        have HR3 := Lib.hid (own_belowW' HR.out hb3)
        have HCI : Hid (c < wi.heap.size) := HW.out.cu.lt
        clear ho hb3 HW HR HI
        by_cases hX0 : X.length = 0
        · have e0 : ((X.length : Int) == 0) = true := by simp [hX0]
          clear hX0
          go_wp2_with fail
          clear e0
          refine (one_c c (n + 12 - 2 * j) 16 (by omega) (by omega) (by omega) _ HW3.out.cu).mono ?_
          rintro e w6 ⟨b6, rfl, hc6, hu6⟩
          have HW6 : Hid (CuW c (n + 14) wb w6) := (HW3.out.trans ⟨hc6, hu6⟩).mono (by omega)
          have HR6 := Lib.hid (own_chgC HR3.out hc6 hcr)
          have hcz6 := hu6.lt
          clear hc6 hu6
          cases b6
          · go_wp2_with fail
            go_ret
            exact ⟨_, _, L, rfl, fun w'' hc => own_icC (k := 0) HR6.out (Nat.le_succ _) hc, by omega, op_wf HOP.out, own_roomy HR6.out, (HC0.out.trans HW6.out).mono (by omega)⟩
          · obtain ⟨q0, q1, q2, q3⟩ := HBX.out _ _ HW6.out
            go_wp2_with fail
            clear q0 q1 q2 q3
            refine (among_c c (n + 14) 4 4 _ [-1, 0, 30, (m.doors.length : Int)] rfl (by omega) (by omega) (by omega) _ (HW6.out.alloc _).cu (fun w' hc => ic_litC rfl rfl (by simp) hcz6 hc rfl)).mono ?_
            rintro e w7 ⟨x7, rfl, hx7, hc7, hu7⟩
            have hxw : wfI x7 := by
              simp at hx7
              rcases hx7 with rfl | rfl | rfl | rfl
              · exact wfI_small (by decide) (by decide)
              · exact wfI_small (by decide) (by decide)
              · exact wfI_small (by decide) (by decide)
              · exact wfI_small (by omega) (by omega)
            have HXW := Lib.hid hxw
            have HW7 : Hid (CuW c (n + 16) wb w7) := (HW6.out.alloc _).trans ⟨hc7, hu7⟩
            have HR7 := Lib.hid (own_chgC (HR6.out.alloc _) hc7 hcr)
            have hz7 : w.heap.size + 1 ≤ w7.heap.size := by have h1 := HW7.out.ch.size; have h2 := HSB.out; omega
            clear hxw hx7 hc7 hu7 hcz6
            go_wp2_with (at_builtin; refine wpList_append_own _ rfl _ _ 25 rfl (w.heap.size + 1) 3 i0 (.int .i64 0) 1 8 Try.underlying25 hi hz0 hz1 hz2 rfl (by decide) _ _ _ rfl (HR7.out.alloc _) ⟨w7.heap.size, 0, none⟩ 1 1 [.int .i64 x7] rfl rfl ?_ ?_ ?_ ?_ ?_ ?_; (exact cell_one_new _ _ _); (simp [Value.oneCell']); (unfold maxLen; omega); omega; (simp; omega); intro v' w9 hown' hgrow _)
            go_ret
            obtain ⟨b9, c9, hv9, -, -⟩ := own_someS hown' (by omega)
            have hl9 : (L ++ [x7]).length = L.length + 1 := by simp
            subst hv9
            have hown9 : w9.ownsRow (w.heap.size + 1) 3 1 (.slice (some ⟨b9, 0, none⟩) (L ++ [x7]).length c9) (L ++ [x7]).length (ints (L ++ [x7])) := by
              rw [hl9, ints_snoc]; exact hown'
            exact ⟨b9, c9, L ++ [x7], by rw [hl9]; rfl, fun w'' hc => own_icC (k := 0) hown9 (Nat.le_succ _) hc, by omega, wf_snoc (op_wf HOP.out) HXW.out, own_roomy hown9, (HC0.out.trans ((HW7.out.alloc _).grown hgrow (fun g hg => own_block_lo HR7.out hg) (by have := HSB.out; omega) (by have := HSB.out; omega))).mono (by omega)⟩
        · have e0 : ((X.length : Int) == 0) = false := by simp; exact fun h => hX0 (by rw [h]; rfl)
          have hXp : 0 < X.length := by omega
          clear hX0
          go_wp2_with fail
          clear e0
          refine (pick_c c (n + 12 - 2 * j) X.length hXp (by omega) (by omega) _ HW3.out.cu).mono ?_
          rintro e w4 ⟨r, rfl, hr, hc4, hu4⟩
          have HW4 : Hid (CuW c (n + 12 - 2 * (j - 1)) wb w4) := (HW3.out.trans ⟨hc4, hu4⟩).mono (by omega)
          have HR4 := Lib.hid (own_chgC HR3.out hc4 hcr)
          have hI4 : IC w4 a3 X := ic_of' (Own.of (own_chgC HO3.out hc4 HCI.out)) rfl
          clear hc4 hu4 HW3 HR3
          obtain ⟨b5, o5, x, rfl, HXX, hbs, c0⟩ := hI4.at r hr
          have HIN : Hid (x ∈ nextL m O L) := by
            show x ∈ _
            rw [← HX.out, ← HXX.out, getElem!_pos X r hr]
            exact List.getElem_mem _
          have hrI : (r : Int) < (X.length : Int) := by omega
          have hr0 : (0 : Int) ≤ (r : Int) := by omega
          have hz7 : w.heap.size + 1 ≤ w4.heap.size := by have h1 := HW4.out.ch.size; have h2 := HSB.out; omega
          clear hI4
          go_wp2_with (at_builtin; refine wpList_append_own _ rfl _ _ 25 rfl (w.heap.size + 1) 3 i0 (.int .i64 0) 1 8 Try.underlying25 hi hz0 hz1 hz2 rfl (by decide) _ _ _ rfl (HR4.out.alloc _) ⟨w4.heap.size, 0, none⟩ 1 1 [.int .i64 x] rfl rfl ?_ ?_ ?_ ?_ ?_ ?_; (exact cell_one_new _ _ _); (simp [Value.oneCell']); (unfold maxLen; omega); omega; (simp; omega); intro v' w9 hown' hgrow _)
          obtain ⟨b9, c9, hv9, -, -⟩ := own_someS hown' (by omega)
          have hl9 : (L ++ [x]).length = L.length + 1 := by simp
          subst hv9
          have HR9 : Hid (w9.ownsRow (w.heap.size + 1) 3 1 (.slice (some ⟨b9, 0, none⟩) (L ++ [x]).length c9) (L ++ [x]).length (ints (L ++ [x]))) := by
            show World.ownsRow _ _ _ _ _ _ _
            rw [hl9, ints_snoc]; exact hown'
          have HW9 : Hid (CuW c (n + 12 - 2 * (j - 1)) wb w9) := (HW4.out.alloc _).grown hgrow (fun g hg => own_block_lo HR4.out hg) (by have := HSB.out; omega) (by have := HSB.out; omega)
          clear hown' hgrow
          go_roundw
          case rel => exact ⟨j - 1, L ++ [x], setN O x, b9, c9, by go_num, by omega, by rw [hl9]; omega, by rw [hl9], op_step OK.out HOP.out HIN.out, HR9, HW9⟩
          case measure => simp [intOf]; omega
      · obtain rfl : j = 0 := by omega
        go_wp2_with fail
        refine (one_c c (n + 12 - 2 * 0) 16 (by omega) (by omega) (by omega) _ HW.out.cu).mono ?_
        rintro e w6 ⟨b6, rfl, hc6, hu6⟩
        have HW6 : Hid (CuW c (n + 14) wb w6) := (HW.out.trans ⟨hc6, hu6⟩).mono (by omega)
        have HR6 := Lib.hid (own_chgC HR.out hc6 hcr)
        have hcz6 := hu6.lt
        clear hc6 hu6
        cases b6
        · go_wp2_with fail
          go_ret
          exact ⟨_, _, L, rfl, fun w'' hc => own_icC (k := 0) HR6.out (Nat.le_succ _) hc, by omega, op_wf HOP.out, own_roomy HR6.out, (HC0.out.trans HW6.out).mono (by omega)⟩
        · obtain ⟨q0, q1, q2, q3⟩ := HBX.out _ _ HW6.out
          go_wp2_with fail
          clear q0 q1 q2 q3
          refine (among_c c (n + 14) 4 4 _ [-1, 0, 30, (m.doors.length : Int)] rfl (by omega) (by omega) (by omega) _ (HW6.out.alloc _).cu (fun w' hc => ic_litC rfl rfl (by simp) hcz6 hc rfl)).mono ?_
          rintro e w7 ⟨x7, rfl, hx7, hc7, hu7⟩
          have hxw : wfI x7 := by
            simp at hx7
            rcases hx7 with rfl | rfl | rfl | rfl
            · exact wfI_small (by decide) (by decide)
            · exact wfI_small (by decide) (by decide)
            · exact wfI_small (by decide) (by decide)
            · exact wfI_small (by omega) (by omega)
          have HXW := Lib.hid hxw
          have HW7 : Hid (CuW c (n + 16) wb w7) := (HW6.out.alloc _).trans ⟨hc7, hu7⟩
          have HR7 := Lib.hid (own_chgC (HR6.out.alloc _) hc7 hcr)
          have hz7 : w.heap.size + 1 ≤ w7.heap.size := by have h1 := HW7.out.ch.size; have h2 := HSB.out; omega
          clear hxw hx7 hc7 hu7 hcz6
          go_wp2_with (at_builtin; refine wpList_append_own _ rfl _ _ 25 rfl (w.heap.size + 1) 3 i0 (.int .i64 0) 1 8 Try.underlying25 hi hz0 hz1 hz2 rfl (by decide) _ _ _ rfl (HR7.out.alloc _) ⟨w7.heap.size, 0, none⟩ 1 1 [.int .i64 x7] rfl rfl ?_ ?_ ?_ ?_ ?_ ?_; (exact cell_one_new _ _ _); (simp [Value.oneCell']); (unfold maxLen; omega); omega; (simp; omega); intro v' w9 hown' hgrow _)
          go_ret
          obtain ⟨b9, c9, hv9, -, -⟩ := own_someS hown' (by omega)
          have hl9 : (L ++ [x7]).length = L.length + 1 := by simp
          subst hv9
          have hown9 : w9.ownsRow (w.heap.size + 1) 3 1 (.slice (some ⟨b9, 0, none⟩) (L ++ [x7]).length c9) (L ++ [x7]).length (ints (L ++ [x7])) := by
            rw [hl9, ints_snoc]; exact hown'
          exact ⟨b9, c9, L ++ [x7], by rw [hl9]; rfl, fun w'' hc => own_icC (k := 0) hown9 (Nat.le_succ _) hc, by omega, wf_snoc (op_wf HOP.out) HXW.out, own_roomy hown9, (HC0.out.trans ((HW7.out.alloc _).grown hgrow (fun g hg => own_block_lo HR7.out hg) (by have := HSB.out; omega) (by have := HSB.out; omega))).mono (by omega)⟩
set_option maxHeartbeats 4000000 in
theorem drawLocksOf_c (a : Option Addr) (n cap : Nat) (w : World) (hb : BC w a n) (hn : n ≤ 65536) : Calls Try.prog 96 #[.slice a n cap] w fun e w' => ∃ v, ∃ m : Mz, e = .returned v ∧ DMz w w' v m := by
  have HC := Lib.hid (draw_start (cap := cap) (o := .cells #[.int .i64 0, .slice none 0 0, .slice none 0 0] 27) (T := 52) hb hn)
  clear hb
  go_enter Try.func96, Try.ntmps96
  go_wp2_with fail
  refine (locked7_c (w.heap.size + 1) 0 (by omega) _ HC.out).mono ?_
  rintro e w2 ⟨v, m, rfl, hst, hd, hk, hs, hW⟩
  have HW := Lib.hid hW
  have hst2 := hst
  obtain ⟨vg, vp, rfl, hr1, hr2, -⟩ := hst2
  obtain ⟨ad, cd, rfl⟩ := own_slice hr1
  obtain ⟨ak, ck, rfl⟩ := own_slice hr2
  have HST := Lib.hid (hst.at hd hk)
  clear hst hr1 hr2 hW
  obtain ⟨q0, q1, q2, q3, q4, q5, q6⟩ := draw_res HW.out
  go_wp2_with fail
  exact bodyPost_ret (v := .agg #[.int .i64 m.size, .slice ad m.doors.length cd, .slice ak m.keys.length ck]) (by simp [results, Try.results96, go_sem, q0, q1, q2, q3, q4, q5, q6]) rfl ⟨_, m, rfl, fun w'' hch => HST.out _ ((chg_set3 (by simp; omega) _ _ _).trans (hch.mono (Nat.le_refl _) (by simp; omega))), hs, hd, hk, below_set3 (draw_below HW.out) (Nat.le_refl _) _ _ _⟩
set_option maxHeartbeats 4000000 in
theorem drawFirstWin_c (a : Option Addr) (n cap : Nat) (w : World) (hb : BC w a n) (hn : n ≤ 65536) : Calls Try.prog 29 #[.slice a n cap] w fun e w' => ∃ v, ∃ m : Mz, e = .returned v ∧ DMz w w' v m := by
  have HBC : Hid (BC (w.alloc (.cells #[.int .i64 0, .slice none 0 0, .slice none 0 0] 27)) a n) := hb.later ((Below.refl _ _).alloc (Nat.le_refl _) _)
  clear hb
  go_enter Try.func29, Try.ntmps29
  go_wp2_with fail
  refine (drawLocksOf_c a n cap _ HBC.out hn).mono ?_
  rintro e w2 ⟨v, m, rfl, hst, hs, hd, hk, hB⟩
  rw [show (w.alloc (.cells #[.int .i64 0, .slice none 0 0, .slice none 0 0] 27)).heap.size = w.heap.size + 1 from by simp] at hst hB
  obtain ⟨⟨ad, cd, ak, ck, rfl, -, -⟩, -, -⟩ := hst _ (Chg.refl _ _ _)
  obtain ⟨q0, q1, q2, q3, q4, q5, q6⟩ := res_b hB
  have HST := Lib.hid hst
  have HB := Lib.hid hB
  clear hst hB
  go_wp2_with fail
  exact bodyPost_ret (v := .agg #[.int .i64 m.size, .slice ad m.doors.length cd, .slice ak m.keys.length ck]) (by simp [results, Try.results29, go_sem, q0, q1, q2, q3, q4, q5, q6]) rfl ⟨_, m, rfl, fun w'' hch => HST.out _ ((chg_set3 (by omega) _ _ _).trans (hch.mono (Nat.le_refl _) (by omega))), hs, hd, hk, below_set3 (below_box HB.out (by omega)) (Nat.le_refl _) _ _ _⟩
set_option maxRecDepth 100000 in
set_option maxHeartbeats 4000000 in
theorem drawIsOpening_c (a : Option Addr) (n cap : Nat) (w : World) (hb : BC w a n) (hn : n ≤ 65536) : Calls Try.prog 8 #[.slice a n cap] w fun e w' => ∃ v, ∃ m : Mz, ∃ b cp, ∃ L : List Int, e = .returned (.tuple #[v, .slice (some ⟨b, 0, none⟩) L.length cp]) ∧ DMz w w' v m ∧ (∀ w'', Chg 0 w.heap.size w' w'' → IC w'' (some ⟨b, 0, none⟩) L) ∧ L.length ≤ 12 ∧ (∀ x ∈ L, wfI x) ∧ (L.length ≤ cp ∧ cp ≤ maxLen) := by
  have HC := Lib.hid (draw_start (cap := cap) (o := .cells #[.int .i64 0, .slice none 0 0, .slice none 0 0] 27) (T := 52) hb hn)
  clear hb
  go_enter Try.func8, Try.ntmps8
  go_wp2_with fail
  refine (locked7_c (w.heap.size + 1) 0 (by omega) _ HC.out).mono ?_
  rintro e w2 ⟨v, m, rfl, hst, hd, hk, hs, hW⟩
  have HW := Lib.hid hW
  have hst2 := hst
  obtain ⟨vg, vp, rfl, hr1, hr2, -⟩ := hst2
  obtain ⟨ad, cd, rfl⟩ := own_slice hr1
  obtain ⟨ak, ck, rfl⟩ := own_slice hr2
  have HST := Lib.hid (hst.at hd hk)
  have HZ2 : Hid (w.heap.size + 1 < w2.heap.size) := HW.out.cu.lt
  have HZR : Hid (w.heap.size < w2.heap.size) := by have := HZ2.out; show _ < _; omega
  clear hst hr1 hr2 hW
  have HB0 : Hid (CuW (w.heap.size + 1) 2000 (w2.alloc (.cells #[.int .i64 m.size, .slice ad m.doors.length cd, .slice ak m.keys.length ck] 27)) (w2.alloc (.cells #[.int .i64 m.size, .slice ad m.doors.length cd, .slice ak m.keys.length ck] 27)).drew) := ((CuW.refl ((HW.out.alloc _).cu)).drew).mono (by omega)
  have HWB := Lib.hid (HW.out.alloc (.cells #[.int .i64 m.size, .slice ad m.doors.length cd, .slice ak m.keys.length ck] 27))
  go_upto_region 3 with fail
  go_region_held3 (fun W => W.cell? ⟨w2.heap.size, 0, none⟩ = some (.int .i64 m.size) ∧ W.cell? ⟨w2.heap.size, 1, none⟩ = some (.slice ad m.doors.length cd) ∧ W.cell? ⟨w2.heap.size, 2, none⟩ = some (.slice ak m.keys.length ck))
    (first
      | with_reducible exact box_in HB0.out HZ2.out
      | with_reducible exact box_in HB1.out HZ2.out
      | with_reducible exact box_set HB1.out HZ2.out HZR.out)
    (first
      | (go_at_call 71; (with_reducible refine (opening7_c (w.heap.size + 1) 2000 (by omega) _ m _ HB0.out.cu (fun w'' hch => HST.out w'' ((((Chg.refl _ _ w2).alloc _).drew.trans hch).mono (Nat.zero_le _) (by simp)))).mono ?_); rintro e w3 ⟨bL, cp, L, rfl, hiL, hL, hfL, hcL, hc1⟩; have HB1 := Lib.hid (HB0.out.trans hc1); have HC1 : Hid (Chg (w.heap.size + 1) (w.heap.size + 1 + 1) w2 w3) := (((Chg.refl _ _ w2).alloc _).trans HB1.out.ch); have HIL := Lib.hid hiL; have HFL := Lib.hid hfL; clear hiL hfL hc1; obtain ⟨q0, q1, q2, q3, q4, q5, q6⟩ := draw_res (HWB.out.trans HB1.out)))
  all_goals
    go_wp2_with fail
    exact bodyPost_ret (v := .tuple #[.agg #[.int .i64 m.size, .slice ad m.doors.length cd, .slice ak m.keys.length ck], (.slice (some ⟨bL, 0, none⟩) L.length cp)]) (by simp [results, Try.results8, go_sem, q0, q1, q2, q3, q4, q5, q6]) rfl ⟨_, m, bL, cp, L, rfl, ⟨fun w'' hch => HST.out _ (((HC1.out.mono (Nat.zero_le _) (by simp)).trans (chg_set3 (by simp; omega) _ _ _)).trans (hch.mono (Nat.le_refl _) (by simp; omega))), hs, hd, hk, below_set3 (draw_below (HWB.out.trans HB1.out)) (Nat.le_refl _) _ _ _⟩, fun w'' hch => HIL.out w'' ((chg_set3 (by have := HZR.out; simp; omega) _ _ _).trans (hch.mono (Nat.le_refl _) (by have := HZR.out; simp; omega))), hL, HFL.out, hcL⟩
end Go.Proofs.Ytcjcgcgcloanpaa

namespace Go.KD
open Go.RowKit
noncomputable def askOB (m : Mz) (L : List Int) : Bool := goodB m && opsB m L
noncomputable def pIsOpening (m : Mz) (L : List Int) : Bool × Bool := if goodB m then (opsB m L, true) else (false, false)
noncomputable def pWinsBy (m : Mz) (L : List Int) : Bool × Bool := if askOB m L then (wonB m (opN m L), true) else (false, false)
noncomputable def pNearNodes (m : Mz) (L : List Int) : List Int × Bool := if askOB m L then (mem (nearN m (opN m L)), true) else ([], false)
noncomputable def pKeysLeft (m : Mz) (L : List Int) : List Int × Bool := if askOB m L then (leftL m (nearN m (opN m L)) L, true) else ([], false)
noncomputable def pNextLocks (m : Mz) (L : List Int) : List Int × Bool := if askOB m L then (nextL m (opN m L) L, true) else ([], false)
theorem pNearNodes_len (m : Mz) (L : List Int) : (pNearNodes m L).1.length ≤ 1000000 := by
  unfold pNearNodes; split
  · have := mem_len40z (nearN m (opN m L)); simp only; omega
  · simp
theorem pKeysLeft_len (m : Mz) (L : List Int) : (pKeysLeft m L).1.length ≤ 1000000 := by
  unfold pKeysLeft; split <;> simp
theorem good_ok {m : Mz} (h : goodB m = true) : MzOk m := by
  simp only [goodB, Bool.and_eq_true] at h
  exact mazeB_true.1 h.1
theorem pNextLocks_len (m : Mz) (L : List Int) : (pNextLocks m L).1.length ≤ 1000000 := by
  unfold pNextLocks; split
  · rename_i h
    simp only [askOB, Bool.and_eq_true] at h
    have := nextL_len m (opN m L) L
    have := (good_ok h.1).nd
    simp only; omega
  · simp
theorem ops_ok {m : Mz} {L : List Int} (ok : MzOk m) (h : opsB m L = true) : OpOk m (opN m L) L := by
  unfold opsB at h
  rw [Option.isSome_iff_exists] at h
  obtain ⟨O, hO⟩ := h
  have := opK_ok ok L.length O (Nat.le_refl _) hO
  rw [List.take_length] at this
  unfold opN
  rw [hO]; exact this
theorem op_lt30 {m : Mz} (ok : MzOk m) {O : Nat} {L : List Int} (h : OpOk m O L) : O < 1073741824 := bits_lt30 fun i hi => Nat.lt_of_lt_of_le (h.lt i hi) ok.nd
theorem op_hasB {m : Mz} (ok : MzOk m) {O : Nat} {L : List Int} (h : OpOk m O L) (k : Nat) (hk : k < m.doors.length) : hasI L (k : Int) = O.testBit k := op_has h k (by have := ok.nd; omega)
end Go.KD
namespace Go.Proofs.Ytcjcgcgcloanpaa
open Go.RowKit Go.KD
attribute [local go_sem] later_cell later_frozen
theorem openingOf_c (v : Value) (m : Mz) (aL : Option Addr) (cL : Nat) (L : List Int) (w : World) (hm : MzAt w v m) (hL : IC w aL L) (hLl : L.length ≤ 1048576) : Calls Try.prog 76 #[v, .slice aL L.length cL] w fun e w' =>
    (∃ O : Nat, e = .returned (.tuple #[.int .i64 O, .bool (askOB m L)]) ∧ Hid (askOB m L = true → O = opN m L)) ∧ Below w.heap.size w w' := by
  have hM := hm
  obtain ⟨⟨ad, cd, ak, ck, rfl, hd, hk'⟩, nd, nk⟩ := hM
  cases b1 : goodB m
  · have H : Hid (askOB m L = false) := by show _ = _; simp [askOB, b1]
    go_enter Try.func76, Try.ntmps76
    go_wp2_with (go_at_call 72; refine (isSpent_c _ m _ (hm.later (by (repeat (first | exact Below.refl _ _ | apply Below.drew | apply below_drewN | (refine Below.setCell ?_ (by first | omega | (simp; done) | (simp; omega) | (dsimp only; omega)) _) | (refine Below.alloc ?_ (by first | omega | (simp; done) | (simp; omega) | (dsimp only; omega)) _)))))).mono ?_; rintro e w1 ⟨rfl, hb1⟩)
    go_ret2
    exact ⟨⟨0, by rw [H.out]; rfl, fun h => by rw [H.out] at h; cases h⟩, below_then (by (repeat (first | exact Below.refl _ _ | apply Below.drew | apply below_drewN | (refine Below.setCell ?_ (by first | omega | (simp; done) | (simp; omega) | (dsimp only; omega)) _) | (refine Below.alloc ?_ (by first | omega | (simp; done) | (simp; omega) | (dsimp only; omega)) _)))) hb1⟩
  · have H : Hid (askOB m L = opsB m L) := by show _ = _; simp [askOB, b1]
    have OK := Lib.hid (good_ok b1)
    go_enter Try.func76, Try.ntmps76
    go_wp2_with (first
      | (go_at_call 72; refine (isSpent_c _ m _ (hm.later (by (repeat (first | exact Below.refl _ _ | apply Below.drew | apply below_drewN | (refine Below.setCell ?_ (by first | omega | (simp; done) | (simp; omega) | (dsimp only; omega)) _) | (refine Below.alloc ?_ (by first | omega | (simp; done) | (simp; omega) | (dsimp only; omega)) _)))))).mono ?_; rintro e w1 ⟨rfl, hb1⟩; obtain ⟨hc1, hf1, hz1⟩ := bcell3 hb1; have HB1 : Hid (Below w.heap.size w w1) := below_then (by (repeat (first | exact Below.refl _ _ | apply Below.drew | apply below_drewN | (refine Below.setCell ?_ (by first | omega | (simp; done) | (simp; omega) | (dsimp only; omega)) _) | (refine Below.alloc ?_ (by first | omega | (simp; done) | (simp; omega) | (dsimp only; omega)) _)))) hb1; simp only [b1])
      | (go_at_call 73; refine (opening_c _ m _ _ L _ (hm.later HB1.out) OK.out (hL.later HB1.out) hLl).mono ?_; rintro e w2 ⟨rfl, hb2⟩))
    go_ret2
    exact ⟨⟨opN m L, by rw [H.out]; rfl, fun _ => rfl⟩, below_then HB1.out hb2⟩
theorem l7Ask_c (v : Value) (m : Mz) (aL : Option Addr) (cL : Nat) (L : List Int) (w : World) (hm : MzAt w v m) (hL : IC w aL L) (hLl : L.length ≤ 1048576) (hcap : 0 < L.length → L.length ≤ cL ∧ cL ≤ maxLen) : Calls Try.prog 79 #[v, .slice aL L.length cL] w fun e w' =>
    e = .returned (.bool (askOB m L)) ∧ Below w.heap.size w w' := by
  have hM := hm
  obtain ⟨⟨ad, cd, ak, ck, rfl, hd, hk'⟩, nd, nk⟩ := hM
  have HCAP := Lib.hid hcap; clear hcap
  cases b1 : goodB m
  · have H : Hid (askOB m L = false) := by show _ = _; simp [askOB, b1]
    go_enter Try.func79, Try.ntmps79
    go_wp2_with (go_at_call 74; refine (l7Good_c _ m _ (hm.later (by (repeat (first | exact Below.refl _ _ | apply Below.drew | apply below_drewN | (refine Below.setCell ?_ (by first | omega | (simp; done) | (simp; omega) | (dsimp only; omega)) _) | (refine Below.alloc ?_ (by first | omega | (simp; done) | (simp; omega) | (dsimp only; omega)) _)))))).mono ?_; rintro e w1 ⟨rfl, hb1⟩; simp only [b1])
    go_ret
    exact ⟨by rw [H.out]; rfl, below_then (by (repeat (first | exact Below.refl _ _ | apply Below.drew | apply below_drewN | (refine Below.setCell ?_ (by first | omega | (simp; done) | (simp; omega) | (dsimp only; omega)) _) | (refine Below.alloc ?_ (by first | omega | (simp; done) | (simp; omega) | (dsimp only; omega)) _)))) hb1⟩
  · have H : Hid (askOB m L = opsB m L) := by show _ = _; simp [askOB, b1]
    have OK := Lib.hid (good_ok b1)
    go_enter Try.func79, Try.ntmps79
    go_wp2_with (first
      | (go_at_call 74; refine (l7Good_c _ m _ (hm.later (by (repeat (first | exact Below.refl _ _ | apply Below.drew | apply below_drewN | (refine Below.setCell ?_ (by first | omega | (simp; done) | (simp; omega) | (dsimp only; omega)) _) | (refine Below.alloc ?_ (by first | omega | (simp; done) | (simp; omega) | (dsimp only; omega)) _)))))).mono ?_; rintro e w1 ⟨rfl, hb1⟩; obtain ⟨hc1, hf1, hz1⟩ := bcell3 hb1; have HB1 : Hid (Below w.heap.size w w1) := below_then (by (repeat (first | exact Below.refl _ _ | apply Below.drew | apply below_drewN | (refine Below.setCell ?_ (by first | omega | (simp; done) | (simp; omega) | (dsimp only; omega)) _) | (refine Below.alloc ?_ (by first | omega | (simp; done) | (simp; omega) | (dsimp only; omega)) _)))) hb1; simp only [b1])
      | (go_at_call 75; refine (l7Opening_c _ m _ _ L _ (hm.later HB1.out) OK.out (hL.later HB1.out) hLl HCAP.out).mono ?_; rintro e w2 ⟨rfl, hb2⟩))
    go_ret
    exact ⟨by rw [H.out]; rfl, below_then HB1.out hb2⟩
set_option maxRecDepth 100000 in
theorem isWon_c (v : Value) (m : Mz) (O : Nat) (w : World) (hm : MzAt w v m) (ok : MzOk m) (hO : O < 1073741824) : Calls Try.prog 85 #[v, .int .i64 O] w fun e w' => e = .returned (.bool (wonB m O)) ∧ Below w.heap.size w w' := by
  have hM := hm
  obtain ⟨⟨ad, cd, ak, ck, rfl, hd, hk'⟩, nd, nk⟩ := hM
  have hs1 : 1 ≤ m.size := ok.s1
  have hs12 : m.size ≤ 12 := ok.s2
  have hnk : (m.keys.length : Int) = m.size := ok.nk
  have HNIN := Lib.hid ((nearN_in ok O).lt ok)
  have OK := Lib.hid ok
  obtain ⟨n1, hn1⟩ : ∃ n1, m.keys.length = n1 + 1 := ⟨m.keys.length - 1, by omega⟩
  have hix : IntKind.i64.wrap (m.size - 1) = (n1 : Int) := by rw [IntKind.wrap_i64]; omega
  have hn12 : n1 < 12 := by omega
  have hnI : (n1 : Int) < 64 := by omega
  have hn0 : (0 : Int) ≤ (n1 : Int) := by omega
  have HW : Hid (wonB m O = (nearN m O).testBit n1) := by show _ = _; unfold wonB; rw [hn1]; rfl
  obtain ⟨y, HY, ey⟩ := shr_at (nearN m O) n1
  have hy : y < 1099511627776 := by
    have := HY.out; rw [Nat.shiftRight_eq_div_pow] at this; have := Nat.div_le_self (nearN m O) (2 ^ n1); have := HNIN.out; omega
  have eb := and1 hy
  have hb1 := bit_shr (nearN m O) n1
  rw [← HY.out] at hb1
  rw [hb1] at eb
  have HN := Lib.hid hn1
  clear ok hn1 hb1 hy
  obtain ⟨pb, hpb⟩ : ∃ pb, pb = (nearN m O).testBit n1 := ⟨_, rfl⟩
  rw [← hpb] at eb HW
  clear hpb
  cases pb
  all_goals
    (first | simp only [if_true] at eb | simp only [Bool.false_eq_true, if_false] at eb)
    go_enter Try.func85, Try.ntmps85
    go_wp2
    have hb0 : Below (w.heap.size + 1) (w.alloc (.cells #[.int .i64 m.size, .slice ad m.doors.length cd, .slice ak m.keys.length ck] 27)) (w.alloc (.cells #[.int .i64 m.size, .slice ad m.doors.length cd, .slice ak m.keys.length ck] 27)).drew := (Below.refl _ _).drew
    obtain ⟨q0, q1, q2, z1⟩ := box3 hb0 (by omega)
    go_region_held3 (fun W => W.cell? ⟨w.heap.size, 0, none⟩ = some (.int .i64 m.size) ∧ W.cell? ⟨w.heap.size, 1, none⟩ = some (.slice ad m.doors.length cd) ∧ W.cell? ⟨w.heap.size, 2, none⟩ = some (.slice ak m.keys.length ck))
      (first | exact ⟨q0, q1, q2⟩ | exact ⟨r0, r1, r2⟩)
      ((go_at_call 78; refine (near_c _ m O _ (hm.later (by (repeat (first | exact Below.refl _ _ | apply Below.drew | apply below_drewN | (refine Below.setCell ?_ (by first | omega | (simp; done) | (simp; omega) | (dsimp only; omega)) _) | (refine Below.alloc ?_ (by first | omega | (simp; done) | (simp; omega) | (dsimp only; omega)) _))))) OK.out hO).mono ?_; rintro e w2 ⟨rfl, hb2⟩; have hb2' : Below (w.heap.size + 1) (w.alloc (.cells #[.int .i64 m.size, .slice ad m.doors.length cd, .slice ak m.keys.length ck] 27)) w2 := hb0.trans (hb2.mono (by simp)); obtain ⟨r0, r1, r2, z2⟩ := box3 hb2' (by omega); have HB2 : Hid (Below w.heap.size w w2) := below_box hb2' (by omega); clear hb2 hb2'))
    go_wp2
    go_ret
    exact ⟨by rw [HW.out]; rfl, HB2.out⟩
set_option maxRecDepth 100000 in
theorem l7Wins_c (v : Value) (m : Mz) (O : Nat) (aL : Option Addr) (cL n : Nat) (L : List Int) (w : World) (hn : n = L.length) (hm : MzAt w v m) (ok : MzOk m) (hL : IC w aL L) (hLl : L.length ≤ 1048576) (hop : OpOk m O L) : Calls Try.prog 86 #[v, .slice aL n cL] w fun e w' => e = .returned (.bool (wonB m O)) ∧ Below w.heap.size w w' := by
  subst hn
  have hM := hm
  obtain ⟨⟨ad, cd, ak, ck, rfl, hd, hk'⟩, nd, nk⟩ := hM
  have hs1 : 1 ≤ m.size := ok.s1
  have hs12 : m.size ≤ 12 := ok.s2
  have hnk : (m.keys.length : Int) = m.size := ok.nk
  have HNIN := Lib.hid ((nearN_in ok O).lt ok)
  have HHB := Lib.hid (op_hasB ok hop)
  have OK := Lib.hid ok
  obtain ⟨n1, hn1⟩ : ∃ n1, m.keys.length = n1 + 1 := ⟨m.keys.length - 1, by omega⟩
  have hix : IntKind.i64.wrap (m.size - 1) = (n1 : Int) := by rw [IntKind.wrap_i64]; omega
  have HW : Hid (hasI (mem (nearN m O)) (n1 : Int) = wonB m O) := by show _ = _; unfold wonB; rw [hn1]; exact hasI_bitZ HNIN.out
  have HN := Lib.hid hn1
  clear ok hn1 hop
  go_enter Try.func86, Try.ntmps86
  go_wp2
  have hb0 : Below (w.heap.size + 1) (w.alloc (.cells #[.int .i64 m.size, .slice ad m.doors.length cd, .slice ak m.keys.length ck] 27)) (w.alloc (.cells #[.int .i64 m.size, .slice ad m.doors.length cd, .slice ak m.keys.length ck] 27)).drew := (Below.refl _ _).drew
  obtain ⟨q0, q1, q2, z1⟩ := box3 hb0 (by omega)
  go_region_held3 (fun W => W.cell? ⟨w.heap.size, 0, none⟩ = some (.int .i64 m.size) ∧ W.cell? ⟨w.heap.size, 1, none⟩ = some (.slice ad m.doors.length cd) ∧ W.cell? ⟨w.heap.size, 2, none⟩ = some (.slice ak m.keys.length ck))
    (first | exact ⟨q0, q1, q2⟩ | exact ⟨r0, r1, r2⟩)
    (first
      | (go_at_call 80; refine (l7Near_c _ m O _ _ L _ (hm.later (by (repeat (first | exact Below.refl _ _ | apply Below.drew | apply below_drewN | (refine Below.setCell ?_ (by first | omega | (simp; done) | (simp; omega) | (dsimp only; omega)) _) | (refine Below.alloc ?_ (by first | omega | (simp; done) | (simp; omega) | (dsimp only; omega)) _))))) OK.out (hL.later (by (repeat (first | exact Below.refl _ _ | apply Below.drew | apply below_drewN | (refine Below.setCell ?_ (by first | omega | (simp; done) | (simp; omega) | (dsimp only; omega)) _) | (refine Below.alloc ?_ (by first | omega | (simp; done) | (simp; omega) | (dsimp only; omega)) _))))) hLl HHB.out).mono ?_; rintro e w2 ⟨u2, rfl, hlm, hb2⟩; obtain ⟨gr, orr, cr, rfl, hni, -, -, -, -⟩ := hlm; have hb2' : Below (w.heap.size + 1) (w.alloc (.cells #[.int .i64 m.size, .slice ad m.doors.length cd, .slice ak m.keys.length ck] 27)) w2 := hb0.trans (hb2.mono (by simp)); obtain ⟨r0, r1, r2, z2⟩ := box3 hb2' (by omega); have HB2 : Hid (Below w.heap.size w w2) := below_box hb2' (by omega); clear hb2 hb2')
      | (go_at_call 105; refine (l1Has_c _ _ _ (mem (nearN m O)) _ _ rfl hni (by have := mem_len40z (nearN m O); omega)).mono ?_; rintro e w3 ⟨rfl, rfl⟩))
  go_wp2
  go_ret
  exact ⟨by rw [← HW.out]; rfl, HB2.out⟩
end Go.Proofs.Ytcjcgcgcloanpaa
