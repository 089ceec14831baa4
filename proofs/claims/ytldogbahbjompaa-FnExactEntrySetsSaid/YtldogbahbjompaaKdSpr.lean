/- Contract of spec.l8Spread: the least numbers of acts, a search over numbers. -/
import Derived.Test.YtldogbahbjompaaKdActs4
import Derived.Test.YtldogbahbjompaaKdWg
import Derived.Test.YtldogbahbjompaaKdDo
import Derived.Test.YtldogbahbjompaaKdChg
import Derived.Deep.DeepCutAuto
import Derived.Deep.RegionHeld3
import Derived.Deep.AppendLies
import Derived.Deep.OwnRows
import Derived.Deep.WholeRow
set_option linter.unusedVariables false
set_option linter.unusedSimpArgs false
namespace Go.KD
open Go.RowKit
theorem box3W {w wX : World} {T : TypeId} {a b c : Value} {B : Nat} (h : Below B (w.alloc (.cells #[a, b, c] T)) wX) (hB : w.heap.size < B) : wX.cell? ⟨w.heap.size, 0, none⟩ = some a ∧ wX.cell? ⟨w.heap.size, 1, none⟩ = some b ∧ wX.cell? ⟨w.heap.size, 2, none⟩ = some c ∧ w.heap.size < wX.heap.size := by
  refine ⟨?_, ?_, ?_, ?_⟩
  · rw [h.cell (p := ⟨w.heap.size, 0, none⟩) hB]; simp [go_sem]
  · rw [h.cell (p := ⟨w.heap.size, 1, none⟩) hB]; simp [go_sem]
  · rw [h.cell (p := ⟨w.heap.size, 2, none⟩) hB]; simp [go_sem]
  · have := h.size; simp at this; omega
theorem below_boxW {w wX : World} {o : Obj} {B : Nat} (h : Below B (w.alloc o) wX) (hB : w.heap.size ≤ B) : Below w.heap.size w wX := ((Below.refl _ _).alloc (Nat.le_refl _) o).trans (h.mono hB)
theorem own_belowW {w w' : World} {lo size n : Nat} {e : TypeId} {v : Value} {xs : List Value} (h : w.ownsRow lo e size v n xs) (hb : Below w.heap.size w w') : w'.ownsRow lo e size v n xs := ((Own.of h).later hb (Nat.le_refl _)).row
theorem own_grownW {w w' : World} {lo size n g r : Nat} {e : TypeId} {a c : Nat} {xs : List Value} (h : w.ownsRow lo e size (.slice (some ⟨g, a, none⟩) n c) n xs) (hb : w.grownBy w' (some r)) (hr : r ≠ g) : w'.ownsRow lo e size (.slice (some ⟨g, a, none⟩) n c) n xs := by
  refine ((Own.of h).grown_ne hb (fun b hbb e => ?_)).row
  have h1 : g = b := by simpa [Value.ownBlock] using hbb
  have h2 : r = b := by simpa using e
  exact hr (h2.trans h1.symm)
theorem own_intW {w : World} {lo g n cap : Nat} {e : TypeId} {L : List Int} (h : w.ownsRow lo e 1 (.slice (some ⟨g, 0, none⟩) n cap) n (ints L)) (c : Nat) (hc : c < n) (hl : L.length = n) : w.cell? ⟨g, c, none⟩ = some (.int .i64 L[c]!) := by
  rw [h.cellAt c (by omega), ints, List.getElem?_map, List.getElem?_eq_getElem (by omega), getElem!_pos L c (by omega)]
  rfl
theorem own_lt {w : World} {lo g n cap size : Nat} {e : TypeId} {xs : List Value} (h : w.ownsRow lo e size (.slice (some ⟨g, 0, none⟩) n cap) n xs) : g < w.heap.size := (Own.of h).top g rfl
theorem own_litW {W : World} {g lo : Nat} {e : TypeId} {v : Value} (h : W.heap[g]? = some (.cells #[v] e)) (hb : lo ≤ g) : W.ownsRow lo e 1 (.slice (some ⟨g, 0, none⟩) 1 1) 1 [v] :=
  ⟨rfl, .inr ⟨g, 1, #[v], rfl, hb, h, Nat.le_refl _, by unfold maxLen; omega, rfl, rfl⟩⟩
theorem own_madeW {base n g : Nat} {e : TypeId} (W : World) (hg : g = W.heap.size) (hb : base ≤ W.heap.size) (hn : n ≤ maxLen) (hm : (madeCells (Value.int .i64 0).cells (n * 1)).toList = ints (List.replicate n 0)) : (W.alloc (.cells (madeCells #[.int .i64 0] n) e)).ownsRow base e 1 (.slice (some ⟨g, 0, none⟩) n n) n (ints (List.replicate n 0)) := by
  subst hg
  have h := World.ownsRow_lit (base := base) (e := e) (size := 1) W (madeCells #[.int .i64 0] n) n hb hn (by simp [madeCells])
  rw [Nat.mul_one] at hm
  rw [show (madeCells #[Value.int .i64 0] n).toList = ints (List.replicate n 0) from hm] at h
  exact h
theorem ic_grownW {w w' : World} {r g off : Nat} {l : List Int} (h : IC w (some ⟨g, off, none⟩) l) (hg : w.grownBy w' (some r)) (hr : r ≠ g) : IC w' (some ⟨g, off, none⟩) l := by
  intro k hk
  obtain ⟨b, o, hb, hbs, hc⟩ := h k hk
  cases hb
  exact ⟨g, off, rfl, Nat.lt_of_lt_of_le hbs hg.size, by rw [← hc]; exact World.cell?_of_block (hg.block g hbs (fun e => hr (by simpa using e.symm)))⟩
def idsE (E : List Bn) : List Int := E.map fun e => (e.1 : Int)
@[simp] theorem idsE_len (E : List Bn) : (idsE E).length = E.length := by simp [idsE]
theorem idsE_at {E : List Bn} {i : Nat} (h : i < E.length) : (idsE E)[i]! = ((E[i]!).1 : Int) := by
  rw [getElem!_pos _ i (by simpa using h), getElem!_pos E i h]; simp [idsE]
theorem idsE_snoc (E : List Bn) (y c : Nat) : idsE (E ++ [(y, c)]) = idsE E ++ [(y : Int)] := by simp [idsE]
/-- The first n answers of a search. -/
def gridN (n : Nat) (E : List Bn) : List Int := (List.range n).map fun i => bD E i
theorem gridN_len (n : Nat) (E : List Bn) : (gridN n E).length = n := by simp [gridN]
theorem gridN_at (n : Nat) (E : List Bn) {i : Nat} (h : i < n) : (gridN n E)[i]! = bD E i := by
  rw [getElem!_pos _ i (by rw [gridN_len]; exact h)]; simp [gridN]
theorem gridN_snoc {n : Nat} {E : List Bn} {y c : Nat} (h : E.any (fun e => e.1 == y) = false) (hy : y < n) : (gridN n E).set y (c : Int) = gridN n (E ++ [(y, c)]) := by
  apply List.ext_getElem
  · rw [List.length_set, gridN_len, gridN_len]
  · intro i h1 h2
    rw [gridN_len] at h2
    rw [List.getElem_set]
    have e1 : ∀ F : List Bn, ∀ hh : i < (gridN n F).length, (gridN n F)[i] = bD F i := fun F hh => by simp [gridN]
    split
    · rename_i e
      subst e
      rw [e1, bD_snoc_same h]
    · rename_i e
      rw [e1, e1, bD_snoc_other e]
def iniN (n k : Nat) : List Int := List.replicate k (-1) ++ List.replicate (n - k) 0
theorem iniN_0 (n : Nat) : iniN n 0 = List.replicate n 0 := by unfold iniN; rw [List.replicate_zero, List.nil_append, Nat.sub_zero]
theorem iniN_len {n k : Nat} (h : k ≤ n) : (iniN n k).length = n := by unfold iniN; rw [List.length_append, List.length_replicate, List.length_replicate]; omega
theorem iniN_all (n : Nat) : iniN n n = gridN n [] := by
  unfold iniN
  rw [Nat.sub_self, List.replicate_zero, List.append_nil]
  apply List.ext_getElem
  · rw [List.length_replicate, gridN_len]
  · intro i h1 h2
    rw [List.getElem_replicate]; simp [gridN, bD]
theorem iniN_next {n k : Nat} (h : k < n) : (iniN n k).set k (-1) = iniN n (k + 1) := by
  unfold iniN
  obtain ⟨d, hd⟩ : ∃ d, n - k = d + 1 := ⟨n - k - 1, by omega⟩
  have e : n - (k + 1) = d := by omega
  rw [e, hd, List.set_append_right _ _ (by rw [List.length_replicate]; exact Nat.le_refl _), List.length_replicate, Nat.sub_self, List.replicate_succ, List.set_cons_zero, List.replicate_succ', List.append_assoc]
  rfl
theorem actsL_leS (m : Wk) (x l : Int) : (actsL m x l).length ≤ 41 := by
  unfold actsL
  rw [List.length_append]
  have h1 : (mem (nbK m.gates x l m.gates.length)).length ≤ 40 := by unfold mem memN; rw [List.length_map]; exact Nat.le_trans (List.length_filter_le _ _) (by simp)
  split
  · simp; omega
  · simp; omega
theorem bfE_costS {nx : Nat → List Nat} {E0 : List Bn} (h0 : ∀ e ∈ E0, e.2 = 0) : ∀ i, ∀ e ∈ bfE nx E0 i, e.2 ≤ i
  | 0, e, he => by have := h0 e he; omega
  | i + 1, e, he => by
    have ih := bfE_costS h0 (nx := nx) i
    change e ∈ (if i < (bfE nx E0 i).length then bExp nx (bfE nx E0 i) i else bfE nx E0 i) at he
    split at he
    · rename_i hi
      have hc := ih _ (bMem hi)
      have : ∀ (l : List Nat) (E : List Bn), (∀ e ∈ E, e.2 ≤ i + 1) → ∀ e ∈ l.foldl (bAdd (((bfE nx E0 i)[i]!).2 + 1)) E, e.2 ≤ i + 1 := by
        intro l
        induction l with
        | nil => intro E h; exact h
        | cons y l ihl =>
          intro E h
          refine ihl _ ?_
          unfold bAdd
          split
          · exact h
          · intro e he
            rw [List.mem_append] at he
            rcases he with he | he
            · exact h e he
            · rw [List.mem_singleton] at he; rw [he]; show _ + 1 ≤ _; omega
      exact this _ _ (fun e he => Nat.le_succ_of_le (ih e he)) e he
    · exact Nat.le_succ_of_le (ih e he)
theorem bf_boundS {m : Wk} (ok : WkOk m) {S : List Nat} {E : List Bn} {i j : Nat} (h : BOk (nxW m) S E i j) (hs : ∀ s ∈ S, ((s / 64 : Nat) : Int) < m.size) : ∀ e ∈ E, ((e.1 / 64 : Nat) : Int) < m.size := by
  intro e he
  obtain ⟨s, hss, hw⟩ := h.sd e he
  generalize e.2 = k at hw
  cases k with
  | zero => have hw : s = e.1 := hw; rw [← hw]; exact hs s hss
  | succ k => obtain ⟨z, -, hz⟩ := hw; exact nxW_bound ok hz
theorem nxW_atS {m : Wk} {x l : Nat} (hx : (x : Int) < m.size) (hl : l < 64) : nxW m (x * 64 + l) = (actsL m (x : Nat) (l : Nat)).map (fun a => wSt m x l a) := by
  unfold nxW
  rw [show (x * 64 + l) / 64 = x from by omega, show (x * 64 + l) % 64 = l from by omega, if_pos hx]
theorem id_ofS (s : Nat) : ∃ x l, s = x * 64 + l ∧ l < 64 ∧ s / 64 = x := ⟨s / 64, s % 64, by omega, Nat.mod_lt _ (by omega), rfl⟩
end Go.KD
namespace Go.Proofs.Ytldogbahbjompaa
open Go.RowKit Go.KD
attribute [local go_sem] later_cell later_frozen
theorem l4Id_c (x l s : Nat) (hs : s = x * 64 + l) (hx : x ≤ 12) (hl : l ≤ 64) (w : World) : Calls Try.prog 59 #[.int .i64 x, .int .i64 l] w fun e w' => e = .returned (.int .i64 (s : Int)) ∧ w = w' := by
  have h1 : (x : Int) ≤ 12 := by omega
  have h2 : (l : Int) ≤ 64 := by omega
  go_enter Try.func59, Try.ntmps59
  go_wp2
  go_ret
  exact ⟨ret_int (by omega), rfl⟩
set_option maxRecDepth 100000 in
set_option maxHeartbeats 16000000 in
theorem l8Spread_c (m : Wk) (ad ak : Option Addr) (cd ck : Nat) (x0 l0 n : Nat) (w : World) (hm : WkAt w (.agg #[.int .i64 m.size, .slice ad m.gates.length cd, .slice ak m.pulls.length ck]) m) (ok : WkOk m) (hx0 : (x0 : Int) < m.size) (hl0 : l0 < 64) (hn : n = m.pulls.length * 64) :
    Calls Try.prog 51 #[(.agg #[.int .i64 m.size, .slice ad m.gates.length cd, .slice ak m.pulls.length ck]), .int .i64 x0, .int .i64 l0, .bool false] w fun e w' => ∃ a c, e = .returned (.slice (some ⟨a, 0, none⟩) n c) ∧ IC w' (some ⟨a, 0, none⟩) (gridN n (bfF (nxW m) [((x0 * 64 + l0, 0) : Bn)])) ∧ Below w.heap.size w w' := by
  obtain ⟨i0, ji, jz0, jz1, jz2⟩ := info_parts infoI
  obtain ⟨E0, hE0⟩ : ∃ E0 : List Bn, E0 = [((x0 * 64 + l0, 0) : Bn)] := ⟨_, rfl⟩
  rw [← hE0]
  obtain ⟨s0, hs0⟩ : ∃ s0, s0 = x0 * 64 + l0 := ⟨_, rfl⟩
  rw [← hs0] at hE0
  obtain ⟨FF, hFF⟩ : ∃ FF, FF = bfF (nxW m) E0 := ⟨_, rfl⟩
  rw [← hFF]
  have HFFF := Lib.hid hFF
  have hs1 := ok.s1
  have hs2 := ok.s2
  have hnp := ok.np
  have hn768 : n ≤ 768 := by omega
  have hn64 : 64 ≤ n := by omega
  have hsn : m.size * 64 = (n : Int) := by omega
  have hid0 : s0 < n := by omega
  have HS0 := Lib.hid hs0
  have HSNW : Hid (∀ z : Nat, (z : Int) < m.size → z < 12 ∧ ∀ k : Nat, k < 64 → z * 64 + k < n) := fun z hz => ⟨by omega, fun k hk => by omega⟩
  have hw1 : IntKind.i64.wrap (m.size * 64) = (n : Int) := by rw [IntKind.wrap_i64]; omega
  have hmk : ∀ W : World, (Instr.makeSlice 23 (.int .i64 n) (.int .i64 n)).run Try.prog W = .ok (.slice (some ⟨W.heap.size, 0, none⟩) n n) (W.alloc (.cells (madeCells #[.int .i64 0] n) 3)) := fun W => run_make_row' 23 3 (.int .i64 0) 8 Try.underlying23 infoI rfl .i64 .i64 n (by omega) (by omega) W
  have HB0 : Hid (Below w.heap.size w (w.alloc (.cells #[.int .i64 m.size, .slice ad m.gates.length cd, .slice ak m.pulls.length ck] 40))) := (Below.refl _ _).alloc (Nat.le_refl _) _
  have HR0 : Hid (World.ownsRow ((w.alloc (.cells #[.int .i64 m.size, .slice ad m.gates.length cd, .slice ak m.pulls.length ck] 40)).alloc (.cells (madeCells #[.int .i64 0] n) 3)) (w.heap.size + 1) 3 1 (.slice (some ⟨w.heap.size + 1, 0, none⟩) n n) n (ints (iniN n 0))) := by
    rw [iniN_0]
    exact own_madeW (w.alloc (.cells #[.int .i64 m.size, .slice ad m.gates.length cd, .slice ak m.pulls.length ck] 40)) (by simp) (by simp) (by unfold maxLen; omega) (madeI n)
  have HBB0 : Hid (Below (w.heap.size + 1) (w.alloc (.cells #[.int .i64 m.size, .slice ad m.gates.length cd, .slice ak m.pulls.length ck] 40)) ((w.alloc (.cells #[.int .i64 m.size, .slice ad m.gates.length cd, .slice ak m.pulls.length ck] 40)).alloc (.cells (madeCells #[.int .i64 0] n) 3))) := (Below.refl _ _).alloc (by simp) _
  have HM := Lib.hid hm
  have HMW : Hid (∀ W, Below (w.heap.size + 1) (w.alloc (.cells #[.int .i64 m.size, .slice ad m.gates.length cd, .slice ak m.pulls.length ck] 40)) W → WkAt W (.agg #[.int .i64 m.size, .slice ad m.gates.length cd, .slice ak m.pulls.length ck]) m) := fun W hW => hm.later (below_boxW hW (by omega))
  have HBO : Hid (∀ i, BOk (nxW m) [s0] (bfE (nxW m) E0 i) i 0) := by rw [hE0]; exact bfE_ok (nxW_lt ok) (b_start (S := [s0]) (by simp) (fun s hs => by rw [List.mem_singleton] at hs; omega))
  have HCO : Hid (∀ i, ∀ e ∈ bfE (nxW m) E0 i, e.2 ≤ i) := bfE_costS (fun e he => by rw [hE0, List.mem_singleton] at he; rw [he])
  have HLS : Hid (∀ s ∈ [s0], ((s / 64 : Nat) : Int) < m.size) := fun s hs => by rw [List.mem_singleton] at hs; rw [hs, show s0 / 64 = x0 from by omega]; exact hx0
  have HE0 := Lib.hid hE0
  have OK := Lib.hid ok
  have hx012 : x0 ≤ 12 := by omega
  have hgi := gridN_snoc (n := n) (E := []) (y := s0) (c := 0) rfl hid0
  have HGI : Hid ((gridN n []).set s0 0 = gridN n E0) := by show _ = _; rw [hE0]; exact hgi
  have HID0 : Hid (ints (idsE E0) = [.int .i64 (s0 : Int)]) := by show _ = _; rw [hE0]; rfl
  have HEL0 : Hid (E0.length = 1) := by show _ = _; rw [hE0]; rfl
  clear hm ok hE0 hFF hn hnp hs0 hgi
  go_enter Try.func51, Try.ntmps51
  go_wp2
  go_loopw [10] (fun iv wr => ∃ k : Nat, iv = .int .i64 k ∧ k ≤ n ∧ Hid (World.ownsRow wr (w.heap.size + 1) 3 1 (.slice (some ⟨w.heap.size + 1, 0, none⟩) n n) n (ints (iniN n k))) ∧ Hid (Below (w.heap.size + 1) (w.alloc (.cells #[.int .i64 m.size, .slice ad m.gates.length cd, .slice ak m.pulls.length ck] 40)) wr)) (fun iv _ => n - (intOf iv).toNat)
  case atStart => exact ⟨0, rfl, Nat.zero_le _, HR0, HBB0⟩
  case round =>
    clear HR0 HBB0 HB0
    obtain ⟨wo, rfl⟩ : ∃ wo : World, wo = wr := ⟨_, rfl⟩
    obtain ⟨k, rfl, hk, HR, HB⟩ := hrel
    by_cases hlt : k < n
    · have hkI : (k : Int) < (n : Int) := by omega
      have c0 := own_intW HR.out k hlt (iniN_len hk)
      have f0 := (own_cell HR.out k (by omega)).2
      obtain ⟨ho3, hg3⟩ := own_store1 HR.out k (-1)
      rw [iniN_next hlt] at ho3
      have HR3 := Lib.hid ho3
      have HB3 : Hid (Below (w.heap.size + 1) (w.alloc (.cells #[.int .i64 m.size, .slice ad m.gates.length cd, .slice ak m.pulls.length ck] 40)) (wo.setCell ⟨w.heap.size + 1, k, none⟩ (.int .i64 (-1)))) := Below.setCell HB.out (Nat.le_refl _) _
      clear ho3 hg3
      go_wp2
      go_roundw
      case rel => exact ⟨k + 1, by go_num, by omega, HR3, HB3⟩
      case measure => simp [intOf]; omega
    · obtain rfl : n = k := by omega
      have HR1 : Hid (World.ownsRow wo (w.heap.size + 1) 3 1 (.slice (some ⟨w.heap.size + 1, 0, none⟩) n n) n (ints (gridN n []))) := by have := HR.out; rw [iniN_all] at this; exact this
      clear HR hlt
      have hzo : w.heap.size + 2 ≤ wo.heap.size := by have h1 := own_lt HR1.out; omega
      have HA : Hid (Below wo.heap.size wo (wo.alloc (.cells #[.int .i64 (s0 : Int)] 3))) := (Below.refl _ _).alloc (Nat.le_refl _) _
      have HR2 : Hid (World.ownsRow (wo.alloc (.cells #[.int .i64 (s0 : Int)] 3)) (w.heap.size + 1) 3 1 (.slice (some ⟨w.heap.size + 1, 0, none⟩) n n) n (ints (gridN n []))) := own_belowW HR1.out HA.out
      have hl0 := own_litW (lo := w.heap.size + 2) (heap_alloc_last wo (.cells #[.int .i64 (s0 : Int)] 3)) hzo
      obtain ⟨ho3, hg3⟩ := own_store1 HR2.out s0 0
      have hl3 := own_grownW hl0 hg3 (by omega)
      have c0 := own_intW HR2.out s0 hid0 (gridN_len _ _)
      have f0 := (own_cell HR2.out s0 (by omega)).2
      have HB2 : Hid (Below (w.heap.size + 1) (w.alloc (.cells #[.int .i64 m.size, .slice ad m.gates.length cd, .slice ak m.pulls.length ck] 40)) ((wo.alloc (.cells #[.int .i64 (s0 : Int)] 3)).setCell ⟨w.heap.size + 1, s0, none⟩ (.int .i64 0))) := Below.setCell (HB.out.trans (HA.out.mono (by omega))) (Nat.le_refl _) _
      obtain ⟨W3, hW3⟩ : ∃ W3, W3 = ((wo.alloc (.cells #[.int .i64 (s0 : Int)] 3)).setCell ⟨w.heap.size + 1, s0, none⟩ (.int .i64 0)) := ⟨_, rfl⟩
      rw [HGI.out] at ho3
      rw [← hW3] at ho3 hl3 HB2
      have HR3 : Hid (World.ownsRow W3 (w.heap.size + 1) 3 1 (.slice (some ⟨w.heap.size + 1, 0, none⟩) n n) n (ints (gridN n (bfE (nxW m) E0 0)))) := ho3
      have HL3 : Hid (World.ownsRow W3 (w.heap.size + 2) 3 1 (.slice (some ⟨wo.heap.size, 0, none⟩) (bfE (nxW m) E0 0).length 1) (bfE (nxW m) E0 0).length (ints (idsE (bfE (nxW m) E0 0)))) := by
        show W3.ownsRow (w.heap.size + 2) 3 1 (.slice (some ⟨wo.heap.size, 0, none⟩) E0.length 1) E0.length (ints (idsE E0))
        rw [HID0.out, HEL0.out]; exact hl3
      have HW3 := Lib.hid hW3
      have hidI : (s0 : Int) < (n : Int) := by omega
      clear HR1 HR2 HA hl0 ho3 hg3 hl3 hW3 HB
      go_wp2_with (go_at_call 59; refine (l4Id_c x0 l0 s0 HS0.out hx012 (by omega) _).mono ?_; rintro e w2 ⟨rfl, rfl⟩)
      rw [← HW3.out]
      clear c0 f0 HW3
      go_loopw [12, 11] (fun nv tv wr => ∃ i gl cl : Nat, nv = .int .i64 i ∧ tv = .slice (some ⟨gl, 0, none⟩) (bfE (nxW m) E0 i).length cl ∧ i ≤ (bfE (nxW m) E0 i).length ∧ w.heap.size + 2 ≤ wr.heap.size ∧ Hid (World.ownsRow wr (w.heap.size + 1) 3 1 (.slice (some ⟨w.heap.size + 1, 0, none⟩) n n) n (ints (gridN n (bfE (nxW m) E0 i)))) ∧ Hid (World.ownsRow wr (w.heap.size + 2) 3 1 (.slice (some ⟨gl, 0, none⟩) (bfE (nxW m) E0 i).length cl) (bfE (nxW m) E0 i).length (ints (idsE (bfE (nxW m) E0 i)))) ∧ Hid (Below (w.heap.size + 1) (w.alloc (.cells #[.int .i64 m.size, .slice ad m.gates.length cd, .slice ak m.pulls.length ck] 40)) wr)) (fun nv _ _ => 768 - (intOf nv).toNat)
      case atStart => exact ⟨0, wo.heap.size, 1, rfl, by rw [show (bfE (nxW m) E0 0).length = E0.length from rfl, HEL0.out], Nat.zero_le _, by have := own_lt HL3.out; omega, HR3, HL3, HB2⟩
      case round =>
        clear HR3 HL3 HB2
        obtain ⟨wo, rfl⟩ : ∃ wo : World, wo = wr := ⟨_, rfl⟩
        obtain ⟨i, gl, cl, rfl, rfl, hi, hzo, HR, HL, HB⟩ := hrel
        obtain ⟨E, hE⟩ : ∃ E, E = bfE (nxW m) E0 i := ⟨_, rfl⟩
        rw [← hE] at hi HR HL ⊢
        have HOE : Hid (BOk (nxW m) [s0] E i 0) := by rw [hE]; exact HBO.out i
        have hle := HOE.out.le
        have HE := Lib.hid hE
        clear hE
        by_cases hlt : i < E.length
        · have hiI : (i : Int) < (E.length : Int) := by omega
          obtain ⟨x, l, hs, hl, hx⟩ := id_ofS (E[i]!).1
          have hxs : (x : Int) < m.size := by rw [← hx]; exact bf_boundS OK.out HOE.out HLS.out _ (bMem hlt)
          obtain ⟨hx12, hxn⟩ := HSNW.out x hxs
          obtain ⟨si, hsi⟩ : ∃ si, si = x * 64 + l := ⟨_, rfl⟩
          rw [← hsi] at hs
          have hsin : si < n := by rw [hsi]; exact hxn l hl
          obtain ⟨c, hc⟩ : ∃ c, c = (E[i]!).2 := ⟨_, rfl⟩
          have hc768 : c ≤ 768 := by rw [hc]; have := HCO.out i _ (by rw [← HE.out]; exact bMem hlt); omega
          have HC := Lib.hid hc
          have HSE := Lib.hid hs
          have el := own_intW HL.out i hlt (idsE_len E)
          rw [idsE_at hlt, hs] at el
          have hgll := own_block_lo HL.out (g := gl) rfl
          have hglz := own_lt HL.out
          have HNXW : Hid (nxW m (E[i]!).1 = (actsL m (x : Nat) (l : Nat)).map (fun a => wSt m x l a)) := by show _ = _; rw [hs, hsi]; exact nxW_atS hxs hl
          obtain ⟨A, hA⟩ : ∃ A, A = actsL m (x : Nat) (l : Nat) := ⟨_, rfl⟩
          rw [← hA] at HNXW
          have HAA := Lib.hid hA
          have hAl : A.length ≤ 41 := by rw [hA]; exact actsL_leS m x l
          have hq1 : (si : Int) / 64 = (x : Int) := by omega
          have hq2 : (si : Int) % 64 = (l : Int) := by omega
          have hq3 : Int.tdiv (si : Int) 64 = (x : Int) := by rw [Int.tdiv_eq_ediv_of_nonneg (by omega)]; exact hq1
          have hq4 : Int.tmod (si : Int) 64 = (l : Int) := by rw [Int.tmod_eq_emod_of_nonneg (by omega)]; exact hq2
          have hsi768 : (si : Int) < 768 := by omega
          have hwx : IntKind.i64.wrap (x : Int) = (x : Int) := by rw [IntKind.wrap_i64]; omega
          have hwl : IntKind.i64.wrap (l : Int) = (l : Int) := by rw [IntKind.wrap_i64]; omega
          obtain ⟨b0, b1, b2, zb⟩ := box3W HB.out (by omega)
          have HSI := Lib.hid hsi
          clear hs hc hx hA hsi
          go_upto_region 11 with fail
          go_region_held3 (fun W => W.cell? ⟨gl, i, none⟩ = some (.int .i64 (si : Int)))
            (exact el)
            (fail)
          have hd0 : Below wo.heap.size wo wo.drew := (Below.refl _ _).drew
          have HR1 : Hid (World.ownsRow wo.drew (w.heap.size + 1) 3 1 (.slice (some ⟨w.heap.size + 1, 0, none⟩) n n) n (ints (gridN n E))) := own_belowW HR.out hd0
          have HL1 : Hid (World.ownsRow wo.drew (w.heap.size + 2) 3 1 (.slice (some ⟨gl, 0, none⟩) (E).length cl) (E).length (ints (idsE (E)))) := own_belowW HL.out hd0
          have HB1 : Hid (Below (w.heap.size + 1) (w.alloc (.cells #[.int .i64 m.size, .slice ad m.gates.length cd, .slice ak m.pulls.length ck] 40)) wo.drew) := HB.out.drew
          clear HR HL HB el hd0
          go_wp2_with (go_at_call 101; refine (l8ActsB_c _ m x l _ (HMW.out _ HB1.out) OK.out hxs hl).mono ?_; rintro e w2 ⟨u2, rfl, ⟨b8, off8, c8, rfl, hi8, hc8, hcm8, hb8⟩, hb2⟩; rw [← HAA.out] at hi8 hc8 ⊢)
          have HR2 : Hid (World.ownsRow w2 (w.heap.size + 1) 3 1 (.slice (some ⟨w.heap.size + 1, 0, none⟩) n n) n (ints (gridN n E))) := own_belowW HR1.out hb2
          have HL2 : Hid (World.ownsRow w2 (w.heap.size + 2) 3 1 (.slice (some ⟨gl, 0, none⟩) (E).length cl) (E).length (ints (idsE (E)))) := own_belowW HL1.out hb2
          have HB2 : Hid (Below (w.heap.size + 1) (w.alloc (.cells #[.int .i64 m.size, .slice ad m.gates.length cd, .slice ak m.pulls.length ck] 40)) w2) := HB1.out.trans (hb2.mono (by show _ ≤ wo.heap.size; omega))
          have HI2 := Lib.hid hi8
          have hz2 : wo.heap.size ≤ w2.heap.size := hb2.size
          have hb8' : wo.heap.size ≤ b8 := hb8
          have hb8z : 0 < A.length → b8 < w2.heap.size := fun h => by obtain ⟨b, o, he, hbs, -⟩ := hi8 0 h; cases he; exact hbs
          have HB8Z := Lib.hid hb8z
          clear HR1 HL1 HB1 hi8 hb2 hb8 b0 b1 b2 zb hb8z
          go_loopw [16, 11] (fun jv tv wr => ∃ j gl cl : Nat, jv = .int .i64 j ∧ j ≤ A.length ∧ tv = .slice (some ⟨gl, 0, none⟩) (bExpJ (nxW m) E i j).length cl ∧ (gl < wo.heap.size ∨ w2.heap.size ≤ gl) ∧ w2.heap.size ≤ wr.heap.size ∧ Hid (World.ownsRow wr (w.heap.size + 1) 3 1 (.slice (some ⟨w.heap.size + 1, 0, none⟩) n n) n (ints (gridN n (bExpJ (nxW m) E i j)))) ∧ Hid (World.ownsRow wr (w.heap.size + 2) 3 1 (.slice (some ⟨gl, 0, none⟩) (bExpJ (nxW m) E i j).length cl) (bExpJ (nxW m) E i j).length (ints (idsE (bExpJ (nxW m) E i j)))) ∧ Hid (Below (w.heap.size + 1) (w.alloc (.cells #[.int .i64 m.size, .slice ad m.gates.length cd, .slice ak m.pulls.length ck] 40)) wr) ∧ Hid (IC wr (some ⟨b8, off8, none⟩) A)) (fun jv _ _ => A.length - (intOf jv).toNat)
          case atStart => exact ⟨0, gl, cl, rfl, Nat.zero_le _, by simp [bExpJ], .inl hglz, Nat.le_refl _, by simpa [bExpJ] using HR2, by simpa [bExpJ] using HL2, HB2, HI2⟩
          case round =>
            clear HR2 HL2 HB2 HI2 hglz hgll
            obtain ⟨wi, rfl⟩ : ∃ wi : World, wi = wr := ⟨_, rfl⟩
            obtain ⟨j, gl, cl, rfl, hj, rfl, hgw, hzi, HR, HL, HB, HI⟩ := hrel
            have hlen : (nxW m (E[i]!).1).length = A.length := by rw [HNXW.out, List.length_map]
            have HOF : Hid (BOk (nxW m) [s0] (bExpJ (nxW m) E i j) i j) := HOE.out.exp (nxW_lt OK.out) hlt j (by omega)
            have hpre := bExpJ_pre (nxW m) E i j
            obtain ⟨F, hF⟩ : ∃ F, F = bExpJ (nxW m) E i j := ⟨_, rfl⟩
            rw [← hF] at hpre HOF HR HL ⊢
            have hFi : F[i]! = E[i]! := bPre_at hpre hlt
            have hFl : i < F.length := Nat.lt_of_lt_of_le hlt hpre.length_le
            have hF768 := HOF.out.le
            have hgll := own_block_lo HL.out (g := gl) rfl
            have hglz := own_lt HL.out
            have HFF := Lib.hid hF
            have HFI := Lib.hid hFi
            have HLEN := Lib.hid hlen
            clear hF hpre hFi hlen
            by_cases hlt2 : j < A.length
            · have hjI : (j : Int) < (A.length : Int) := by omega
              have hb8w := HB8Z.out (by omega)
              obtain ⟨b9, off9, av, ha9, HX, hbs9, e9⟩ := HI.out.at j hlt2
              cases ha9
              have hmem : av ∈ actsL m (x : Nat) (l : Nat) := by rw [← HAA.out, ← HX.out, getElem!_pos A j hlt2]; exact List.getElem_mem hlt2
              obtain ⟨y, k, hd, hy, hk, hst⟩ := do_nat OK.out hxs hl hmem
              obtain ⟨hy12, hyn⟩ := HSNW.out y hy
              obtain ⟨sj, hsj⟩ : ∃ sj, sj = y * 64 + k := ⟨_, rfl⟩
              have hsjn : sj < n := by rw [hsj]; exact hyn k hk
              have hat : (nxW m (E[i]!).1)[j]! = sj := by rw [HNXW.out, getElem!_pos _ j (by simpa using hlt2), List.getElem_map, hsj, ← hst, ← HX.out, getElem!_pos A j hlt2]
              have HSTEP : Hid (bExpJ (nxW m) E i (j + 1) = bAdd (c + 1) F sj) := by
                show _ = _
                rw [bExpJ_step (nxW m) E i (by rw [HLEN.out]; exact hlt2), ← HFF.out, hat, ← HC.out]
              have HD := Lib.hid hd
              have HSJ := Lib.hid hsj
              have el := own_intW HL.out i hFl (idsE_len F)
              rw [idsE_at hFl, HFI.out, HSE.out] at el
              have hFin : (si, c) ∈ F := by have := bMem hFl; rw [HFI.out] at this; rw [HC.out, ← HSE.out]; exact this
              have exl := own_intW HR.out si hsin (gridN_len _ _)
              rw [gridN_at n F hsin, bD_some HOF.out.nd hFin rfl] at exl
              have ec := own_intW HR.out sj hsjn (gridN_len _ _)
              rw [gridN_at n F hsjn] at ec
              have fc := (own_cell HR.out sj (by omega)).2
              have HFIN := Lib.hid hFin
              have hzw1 := own_lt HR.out
              have HCEL : Hid (∀ W, Below wi.heap.size wi W → W.cell? ⟨gl, i, none⟩ = some (.int .i64 (si : Int)) ∧ W.cell? ⟨w.heap.size + 1, si, none⟩ = some (.int .i64 (c : Int)) ∧ W.cell? ⟨w.heap.size + 1, sj, none⟩ = some (.int .i64 (bD F sj)) ∧ W.frozen? ⟨w.heap.size + 1, sj, none⟩ = false) := fun W hW => ⟨(hW.cell (p := ⟨gl, i, none⟩) hglz).trans el, (hW.cell (p := ⟨w.heap.size + 1, si, none⟩) hzw1).trans exl, (hW.cell (p := ⟨w.heap.size + 1, sj, none⟩) hzw1).trans ec, (hW.frozen (p := ⟨w.heap.size + 1, sj, none⟩) hzw1).trans fc⟩
              obtain ⟨b0, b1, b2, zb⟩ := box3W HB.out (by omega)
              have HS2 : Hid (∀ W, Below wi.heap.size wi W → W.cell? ⟨w.heap.size, 0, none⟩ = some (.int .i64 m.size) ∧ W.cell? ⟨w.heap.size, 1, none⟩ = some (.slice ad m.gates.length cd) ∧ W.cell? ⟨w.heap.size, 2, none⟩ = some (.slice ak m.pulls.length ck) ∧ W.cell? ⟨b8, off8 + j, none⟩ = some (.int .i64 av)) := fun W hW => ⟨(hW.cell (p := ⟨w.heap.size, 0, none⟩) zb).trans b0, (hW.cell (p := ⟨w.heap.size, 1, none⟩) zb).trans b1, (hW.cell (p := ⟨w.heap.size, 2, none⟩) zb).trans b2, (hW.cell (p := ⟨b8, off8 + j, none⟩) hbs9).trans e9⟩
              have hcw : IntKind.i64.wrap ((c : Int) + 1) = (c : Int) + 1 := by rw [IntKind.wrap_i64]; omega
              have hiF : (i : Int) < (F.length : Int) := by omega
              have hsiI : (si : Int) < (n : Int) := by omega
              have hsjI : (sj : Int) < (n : Int) := by omega
              have hAl2 : A.length ≤ c8 := hc8
              clear hmem hst hat hd hFin hsj el exl ec fc
              go_upto_region 16 with fail
              go_region_held3 (fun W => W.cell? ⟨w.heap.size, 0, none⟩ = some (.int .i64 m.size) ∧ W.cell? ⟨w.heap.size, 1, none⟩ = some (.slice ad m.gates.length cd) ∧ W.cell? ⟨w.heap.size, 2, none⟩ = some (.slice ak m.pulls.length ck) ∧ W.cell? ⟨b8, off8 + j, none⟩ = some (.int .i64 av))
                (first | exact HS2.out _ (by repeat (first | exact Below.refl _ _ | exact HB3.out | apply Below.drew | apply below_drewN | (refine Below.setCell ?_ (by first | omega | (simp; done) | (simp; omega) | (dsimp only; omega)) _) | (refine Below.alloc ?_ (by first | omega | (simp; done) | (simp; omega) | (dsimp only; omega)) _))))
                ((go_at_call 102; refine (l8Do_c _ m x l av _ (HMW.out _ (HB.out.trans (Below.mono (B := wi.heap.size) (by repeat (first | exact Below.refl _ _ | apply Below.drew | apply below_drewN | (refine Below.setCell ?_ (by first | omega | (simp; done) | (simp; omega) | (dsimp only; omega)) _) | (refine Below.alloc ?_ (by first | omega | (simp; done) | (simp; omega) | (dsimp only; omega)) _))) (by omega)))) OK.out hxs hl).mono ?_; rintro e w3 ⟨rfl, hb3⟩; rw [HD.out]; have HB3 : Hid (Below wi.heap.size wi w3) := Below.trans (by repeat (first | exact Below.refl _ _ | apply Below.drew | apply below_drewN | (refine Below.setCell ?_ (by first | omega | (simp; done) | (simp; omega) | (dsimp only; omega)) _) | (refine Below.alloc ?_ (by first | omega | (simp; done) | (simp; omega) | (dsimp only; omega)) _))) (hb3.mono (by first | exact Nat.le_refl _ | (simp; done) | (simp; omega))); clear hb3))
              all_goals
                obtain ⟨el, exl, ec, fc⟩ := HCEL.out w3 HB3.out
                have hz3 := HB3.out.size
                have HR3 : Hid (World.ownsRow w3 (w.heap.size + 1) 3 1 (.slice (some ⟨w.heap.size + 1, 0, none⟩) n n) n (ints (gridN n F))) := own_belowW HR.out HB3.out
                have HL3 : Hid (World.ownsRow w3 (w.heap.size + 2) 3 1 (.slice (some ⟨gl, 0, none⟩) (F).length cl) (F).length (ints (idsE (F)))) := own_belowW HL.out HB3.out
                have HBL3 : Hid (Below (w.heap.size + 1) (w.alloc (.cells #[.int .i64 m.size, .slice ad m.gates.length cd, .slice ak m.pulls.length ck] 40)) w3) := HB.out.trans (HB3.out.mono (by omega))
                have HI3 : Hid (IC w3 (some ⟨b8, off8, none⟩) A) := HI.out.later HB3.out
                clear HR HL HB HI HCEL HS2 e9 b0 b1 b2 HB3
                cases hany : F.any (fun e => e.1 == sj)
                case true =>
                  obtain ⟨e', he', hee⟩ := List.any_eq_true.1 hany
                  have hee : e'.1 = sj := by simpa using hee
                  have hbe := bD_some HOF.out.nd he' hee
                  obtain ⟨ai, hai, hae⟩ := bIdx he'
                  have hcle : e'.2 ≤ c + 1 := by have := HOF.out.hi hFl ai hai; rw [hae, HFI.out, ← HC.out] at this; exact this
                  obtain ⟨c', hc'⟩ : ∃ c', c' = e'.2 := ⟨_, rfl⟩
                  rw [hbe, ← hc'] at ec
                  rw [← hc'] at hcle
                  have hd1 : decide ((c' : Int) < 0) = false := by simp
                  have hd2 : decide ((c : Int) + 1 < (c' : Int)) = false := by simp; omega
                  have HJN : Hid (bExpJ (nxW m) E i (j + 1) = F) := by show _ = _; rw [HSTEP.out]; exact bAdd_yes hany
                  clear hany he' hee hbe hai hae hc'
                  go_wp2_with (go_at_call 59; refine (l4Id_c y k sj HSJ.out (by omega) (by omega) _).mono ?_; rintro e w4 ⟨rfl, rfl⟩)
                  go_roundw
                  case rel => exact ⟨j + 1, gl, cl, by go_num, by omega, by rw [HJN.out], hgw, by omega, by rw [HJN.out]; exact HR3, by rw [HJN.out]; exact HL3, HBL3, HI3⟩
                  case measure => simp [intOf]; omega
                case false =>
                  have HJN : Hid (bExpJ (nxW m) E i (j + 1) = F ++ [(sj, c + 1)]) := by show _ = _; rw [HSTEP.out]; exact bAdd_no hany
                  rw [bD_none hany] at ec
                  obtain ⟨ho4, hg4⟩ := own_store1 HR3.out sj ((c + 1 : Nat) : Int)
                  rw [gridN_snoc hany hsjn] at ho4
                  have hl4 := own_grownW HL3.out hg4 (by omega)
                  have hi4 := ic_grownW HI3.out hg4 (by omega)
                  have hb4 : Hid (Below (w.heap.size + 1) (w.alloc (.cells #[.int .i64 m.size, .slice ad m.gates.length cd, .slice ak m.pulls.length ck] 40)) (w3.setCell ⟨w.heap.size + 1, sj, none⟩ (.int .i64 ((c + 1 : Nat) : Int)))) := Below.setCell HBL3.out (Nat.le_refl _) _
                  obtain ⟨w4, hw4⟩ : ∃ w4, w4 = (w3.setCell ⟨w.heap.size + 1, sj, none⟩ (.int .i64 ((c + 1 : Nat) : Int))) := ⟨_, rfl⟩
                  have hz4 : w3.heap.size ≤ w4.heap.size := by rw [hw4]; simp
                  have hz4' : w4.heap.size ≤ w3.heap.size := by rw [hw4]; simp
                  have hcc : ((c + 1 : Nat) : Int) = (c : Int) + 1 := by omega
                  rw [← hw4] at ho4 hl4 hi4 hb4
                  rw [hcc] at hw4
                  have HR4 : Hid (World.ownsRow w4 (w.heap.size + 1) 3 1 (.slice (some ⟨w.heap.size + 1, 0, none⟩) n n) n (ints (gridN n (F ++ [(sj, c + 1)])))) := ho4
                  have HL4 : Hid (World.ownsRow w4 (w.heap.size + 2) 3 1 (.slice (some ⟨gl, 0, none⟩) (F).length cl) (F).length (ints (idsE (F)))) := hl4
                  have HI4 := Lib.hid hi4
                  have HW4 := Lib.hid hw4
                  have HIS : Hid (ints (idsE (F ++ [(sj, c + 1)])) = ints (idsE F) ++ [.int .i64 (sj : Int)]) := by show _ = _; rw [idsE_snoc, ints_snoc]
                  clear hany ho4 hg4 hl4 hi4 hw4 hcc HR3 HL3 HI3 HBL3
                  go_upto_region 22 with (go_at_call 59; refine (l4Id_c y k sj HSJ.out (by omega) (by omega) _).mono ?_; rintro e w4 ⟨rfl, rfl⟩)
                  go_upto_region 23 with fail
                  rw [← HW4.out]
                  clear ec fc el exl HW4
                  have HLA : Hid (World.ownsRow (w4.alloc (.cells #[.int .i64 (sj : Int)] 3)) (w.heap.size + 2) 3 1 (.slice (some ⟨gl, 0, none⟩) F.length cl) F.length (ints (idsE F))) := own_belowW HL4.out ((Below.refl _ _).alloc (Nat.le_refl _) _)
                  go_wp2_with (at_builtin; refine wpList_append_lies _ rfl _ _ 23 rfl (w.heap.size + 2) 3 i0 (.int .i64 0) 1 8 Try.underlying23 ji jz0 jz1 jz2 rfl (by decide) (.slice (some ⟨gl, 0, none⟩) F.length cl) _ _ rfl HLA.out ⟨w4.heap.size, 0, none⟩ 1 1 [.int .i64 (sj : Int)] rfl rfl ?_ ?_ (by omega) ?_ ?_ ?_ (w4.heap.size + 1) ?_ ?_; (exact cell_one_new _ _ _); (simp [Value.oneCell']); (unfold maxLen; omega); omega; (simp; omega); (simp); intro g5 c5 w5 hown5 hgrow5 hat5 hlt5)
                  have hA : Below w4.heap.size w4 (w4.alloc (.cells #[.int .i64 (sj : Int)] 3)) := (Below.refl _ _).alloc (Nat.le_refl _) _
                  have hg5 : g5 = gl ∨ g5 = w4.heap.size + 1 := by rcases hat5 with h | h <;> first | exact .inr h | (left; symm; simpa [Value.ownBlock] using h)
                  have hgr5 : World.grownBy (w4.alloc (.cells #[.int .i64 (sj : Int)] 3)) w5 (some gl) := hgrow5
                  have HR5 : Hid (World.ownsRow w5 (w.heap.size + 1) 3 1 (.slice (some ⟨w.heap.size + 1, 0, none⟩) n n) n (ints (gridN n (F ++ [(sj, c + 1)])))) := own_grownW (own_belowW HR4.out hA) hgr5 (by omega)
                  have HL5 : Hid (World.ownsRow w5 (w.heap.size + 2) 3 1 (.slice (some ⟨g5, 0, none⟩) (F.length + 1) c5) (F.length + 1) (ints (idsE (F ++ [(sj, c + 1)])))) := by rw [HIS.out]; exact hown5
                  have HI5 : Hid (IC w5 (some ⟨b8, off8, none⟩) A) := ic_grownW (HI4.out.later hA) hgr5 (by omega)
                  have HB5 : Hid (Below (w.heap.size + 1) (w.alloc (.cells #[.int .i64 m.size, .slice ad m.gates.length cd, .slice ak m.pulls.length ck] 40)) w5) := Below.grown (hb4.out.trans (hA.mono (by omega))) hgr5 (by have := hb4.out.size; simp at this; simp; omega) (fun b hb => by cases hb; omega)
                  have hz5 : w4.heap.size + 1 ≤ w5.heap.size := by have := hgr5.size; simpa using this
                  clear hown5 hgrow5 hat5 hgr5 HR4 HL4 HI4 HLA
                  go_wp2
                  go_roundw
                  case rel => exact ⟨j + 1, g5, c5, by go_num, by omega, by rw [HJN.out]; simp, by omega, by omega, by rw [HJN.out]; exact HR5, by rw [HJN.out]; simpa using HL5, HB5, HI5⟩
                  case measure => simp [intOf]; omega
            · obtain rfl : j = A.length := by omega
              have HNEXT : Hid (bfE (nxW m) E0 (i + 1) = F) := by
                show _ = _
                rw [bfE_next (by rw [← HE.out]; exact hlt), ← HE.out, HFF.out, ← HLEN.out]; rfl
              have HI1 : Hid (i + 1 ≤ F.length) := hFl
              go_wp2
              go_roundw
              case rel => exact ⟨i + 1, gl, cl, by go_num, by rw [HNEXT.out], by rw [HNEXT.out]; exact HI1.out, by omega, by rw [HNEXT.out]; exact HR, by rw [HNEXT.out]; exact HL, HB⟩
              case measure => simp [intOf]; omega
        · obtain rfl : i = E.length := by omega
          have HFIN : Hid (FF = E) := by
            show _ = _
            rw [HFFF.out, bfF_eq (i := E.length) (by omega) (by rw [← HE.out]; exact Nat.le_refl _), ← HE.out]
          have HIF : Hid (IC wo (some ⟨w.heap.size + 1, 0, none⟩) (gridN n FF)) := by
            rw [HFIN.out]
            exact ic_of' (Own.of HR.out) (gridN_len _ _).symm
          have HBF : Hid (Below w.heap.size w wo) := below_boxW HB.out (by omega)
          go_wp2
          go_ret
          exact ⟨_, _, rfl, HIF.out, HBF.out⟩
end Go.Proofs.Ytldogbahbjompaa
