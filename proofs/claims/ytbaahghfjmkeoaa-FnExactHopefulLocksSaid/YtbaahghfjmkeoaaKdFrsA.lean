/- Maps from numbers to yes or no: what the block holds, in plain words; the laws at the operations. The state of impl.first: a row of openings, a map of their sets. Contract of impl.first. -/
import Derived.Test.YtbaahghfjmkeoaaKdSrch2
import Derived.Maps.OwnSet
import Derived.Maps.OwnOps
set_option linter.unusedVariables false
set_option linter.unusedSimpArgs false
namespace Go.KD
open Go.RowKit Go.Maps
theorem plainElem_bool_inv {H : Type} {P : Program} {e : TypeId} (he : P.underlying e = some .bool) {v : Value} {z : DataW H × List MemPlace} (h : plainElem P e v = some z) : ∃ x, v = .bool x ∧ z = (.lit (.bool x), []) := by
  unfold plainElem at h
  rw [he] at h
  cases v <;> simp at h
  exact ⟨_, rfl, h.symm⟩
/-- The block b holds a map; at k it has f k. -/
def MpO (P : Program) (k e : TypeId) (W : World) (b n : Nat) (f : Nat → Option Bool) : Prop :=
  ∃ D : DataW Unit, W.ownsMap P k (plainElem P e) b n D ∧ ∀ j : Nat, j < 1073741824 → (has D (.int .i64 (j : Int)) = (f j).isSome ∧ D.atKey (.int .i64 (j : Int)) (.lit (.bool false)) = .lit (.bool ((f j).getD false)))
theorem MpO.lt {P : Program} {k e : TypeId} {W : World} {b n : Nat} {f : Nat → Option Bool} (h : MpO P k e W b n f) : b < W.heap.size := by obtain ⟨D, h, _⟩ := h; exact h.lt
theorem MpO.kept {P : Program} {k e : TypeId} {W W' : World} {b n : Nat} {f : Nat → Option Bool} {row : Option Nat} (h : MpO P k e W b n f) (hg : W.grownBy W' row) (hne : some b ≠ row) : MpO P k e W' b n f := by
  obtain ⟨D, h, r⟩ := h; exact ⟨D, h.kept hg hne, r⟩
theorem MpO.keep {P : Program} {k e : TypeId} {W W' : World} {b n : Nat} {f : Nat → Option Bool} (h : MpO P k e W b n f) (hb : W'.heap[b]? = W.heap[b]?) : MpO P k e W' b n f := by
  obtain ⟨D, ⟨es, clock, h1, r1⟩, r⟩ := h; exact ⟨D, ⟨es, clock, hb.trans h1, r1⟩, r⟩
theorem MpO.later {P : Program} {k e : TypeId} {W W' : World} {b n : Nat} {f : Nat → Option Bool} (h : MpO P k e W b n f) (hb : Below W.heap.size W W') : MpO P k e W' b n f := h.keep (hb.block b h.lt)
theorem MpO.alloc {P : Program} {k e : TypeId} {W : World} {b n : Nat} {f : Nat → Option Bool} (h : MpO P k e W b n f) (o : Obj) : MpO P k e (W.alloc o) b n f := by
  obtain ⟨D, h, r⟩ := h; exact ⟨D, h.alloc o, r⟩
theorem MpO.made (W : World) (P : Program) (k e : TypeId) : MpO P k e (W.alloc (.map #[] 0)) W.heap.size 0 (fun _ => none) :=
  ⟨.map [], World.ownsMap_made _ _ _ _, fun j _ => ⟨rfl, rfl⟩⟩
theorem MpO.congr {P : Program} {k e : TypeId} {W : World} {b n : Nat} {f g : Nat → Option Bool} (h : MpO P k e W b n f) (he : ∀ j, j < 1073741824 → f j = g j) : MpO P k e W b n g := by
  obtain ⟨D, h, r⟩ := h; exact ⟨D, h, fun j hj => by rw [← he j hj]; exact r j hj⟩
theorem wf_nat {j : Nat} (h : j < 1073741824) : (Lit.int .i64 (j : Int)).wf = true := WalkArith.wf_i64 (by omega)
theorem MpO.put {P : Program} {k e : TypeId} {W' : World} {b n : Nat} {f : Nat → Option Bool} {D : DataW Unit} (hD : IsMap D) (r : ∀ j : Nat, j < 1073741824 → (has D (.int .i64 (j : Int)) = (f j).isSome ∧ D.atKey (.int .i64 (j : Int)) (.lit (.bool false)) = .lit (.bool ((f j).getD false)))) {i : Nat} {v : Bool}
    (h : W'.ownsMap P k (plainElem P e) b (n + 1) (D.put (.int .i64 (i : Int)) (.lit (.bool v)))) : MpO P k e W' b (n + 1) (fun j => if j = i then some v else f j) := by
  refine ⟨_, h, fun j hj => ?_⟩
  show has _ _ = (if j = i then some v else f j).isSome ∧ _ = DataW.lit (.bool ((if j = i then some v else f j).getD false))
  by_cases hji : j = i
  · subst hji
    rw [if_pos rfl, has_put_same hD (k := .int .i64 (j : Int)) trivial, atKey_put_same hD (k := .int .i64 (j : Int)) trivial]
    exact ⟨rfl, rfl⟩
  · have hne : (Lit.int .i64 (j : Int)) ≠ .int .i64 (i : Int) := fun h => hji (by cases h; rfl)
    rw [if_neg hji, has_put_other hne, atKey_put_other hne]
    exact r j hj
/-- 'm[k]' -/
theorem wpList_lookup_mpo {P : Program} (w : World) {ops : Array Oper} {rest : List Oper} {o : Oper} {a : Act} {Q : Exit → Act → World → Prop}
    (hg : o.guard = none) (m x : Operand) (t : TypeId) (hop : o.op = Op.lookup t m x false)
    (k e : TypeId) (hk : P.underlying k = some (.int .i64)) (ht : P.underlying t = some (.map k e)) (he : P.underlying e = some .bool) (hz : (zeroValue e).run P w = .ok (.bool false) w) (b n : Nat) (f : Nat → Option Bool)
    (hm : a.eval m = .map (some b)) (hown : MpO P k e w b n f) (j : Nat) (hx : a.eval x = .int .i64 (j : Int)) (hj : j < 1073741824)
    (hK : wpList P ops Q rest (a.put o.dst (.bool ((f j).getD false))) w) :
    wpList P ops Q (o :: rest) a w := by
  obtain ⟨D, h, r⟩ := hown
  obtain ⟨v, ps, hrun, hv⟩ := h.lookup (int_keyed hk) ht hz (plainElem_bool he false) (keyOf_int_mk hk (wf_nat hj))
  obtain ⟨y, rfl, hy⟩ := plainElem_bool_inv he hv
  rw [(r j hj).2] at hy
  have hy' : y = (f j).getD false := by
    simp only [Prod.mk.injEq, DataW.lit.injEq, Lit.bool.injEq] at hy
    exact hy.1.symm
  subst hy'
  refine wpList_plain hg fun K' hK' => ?_
  unfold Oper.wp
  simp [execOp, hop, hm, hx, hrun, Result.andThen]
  exact hK' _ _ hK
/-- 'v, ok := m[k]' -/
theorem wpList_lookup_mpo2 {P : Program} (w : World) {ops : Array Oper} {rest : List Oper} {o : Oper} {a : Act} {Q : Exit → Act → World → Prop}
    (hg : o.guard = none) (m x : Operand) (t : TypeId) (hop : o.op = Op.lookup t m x true)
    (k e : TypeId) (hk : P.underlying k = some (.int .i64)) (ht : P.underlying t = some (.map k e)) (he : P.underlying e = some .bool) (hz : (zeroValue e).run P w = .ok (.bool false) w) (b n : Nat) (f : Nat → Option Bool)
    (hm : a.eval m = .map (some b)) (hown : MpO P k e w b n f) (j : Nat) (hx : a.eval x = .int .i64 (j : Int)) (hj : j < 1073741824)
    (hK : wpList P ops Q rest (a.put o.dst (.tuple #[.bool ((f j).getD false), .bool (f j).isSome])) w) :
    wpList P ops Q (o :: rest) a w := by
  obtain ⟨D, h, r⟩ := hown
  obtain ⟨es, clock, hb, F, _, rfl⟩ := h
  obtain ⟨r1, r2⟩ := r j hj
  have hrun : (Instr.lookup t (.map (some b)) (.int .i64 (j : Int)) true).run P w = .ok (.tuple #[.bool ((f j).getD false), .bool (f j).isSome]) w := by
    rcases Maps.fit_look true (int_keyed hk) ht hz hb F (keyOf_int_mk hk (wf_nat hj)) with ⟨hrun, _, hat⟩ | ⟨e0, y, _, _, hrun, hRv, hat, _⟩
    · have h1 := has_false_of_atKey hat
      rw [r1] at h1
      have h2 : f j = none := by cases hf : f j <;> simp [hf] at h1 ⊢
      rw [h2]; exact hrun
    · have h1 := has_true_of_atKey hat
      rw [r1] at h1
      obtain ⟨z, hzv, hzy⟩ := plainElem_bool_inv he hRv
      rw [hat, hzy] at r2
      have hz' : z = (f j).getD false := by simpa using r2
      rw [hzv, hz'] at hrun
      rw [h1]; exact hrun
  refine wpList_plain hg fun K' hK' => ?_
  unfold Oper.wp
  simp [execOp, hop, hm, hx, hrun, Result.andThen]
  exact hK' _ _ hK
/-- 'm[k] = v', and an entry of a literal. -/
theorem wpList_store_mpo {P : Program} (w : World) {ops : Array Oper} {rest : List Oper} {o : Oper} {a : Act} {Q : Exit → Act → World → Prop}
    (hg : o.guard = none) (m x v : Operand) (t : TypeId) (hop : o.op = Op.mapUpdate t m x v ∨ o.op = Op.insert t m x v)
    (k e : TypeId) (hk : P.underlying k = some (.int .i64)) (ht : P.underlying t = some (.map k e)) (he : P.underlying e = some .bool) (b n : Nat) (f : Nat → Option Bool)
    (hm : a.eval m = .map (some b)) (hown : MpO P k e w b n f) (hn : n < maxLen) (i : Nat) (y : Bool) (hx : a.eval x = .int .i64 (i : Int)) (hv : a.eval v = .bool y) (hi : i < 1073741824)
    (hK : ∀ w', MpO P k e w' b (n + 1) (fun j => if j = i then some y else f j) → w.grownBy w' (some b) → wpList P ops Q rest (a.put o.dst undef) w') :
    wpList P ops Q (o :: rest) a w := by
  obtain ⟨D, h, r⟩ := hown
  obtain ⟨w', hrun, r1, r2⟩ := h.update (int_keyed hk) ht hn (keyOf_int_mk hk (wf_nat hi)) (plainElem_bool he y)
  refine wpList_plain hg fun K' hK' => ?_
  unfold Oper.wp
  rcases hop with hop | hop
  · simp [execOp, hop, hm, hx, hv, hrun, Result.andThen]
    exact hK' _ _ (hK w' (MpO.put h.isMap r r1) r2)
  · simp [execOp, hop, hm, hx, hv, hrun, Result.andThen]
    exact hK' _ _ (hK w' (MpO.put h.isMap r r1) r2)
end Go.KD

namespace Go.KD
open Go.RowKit Go.Maps
def seenF (E : List En) : Nat → Option Bool := fun O => if E.any (fun e => e.2 == O) then some true else none
theorem seenF_get (E : List En) (O : Nat) : (seenF E O).getD false = E.any (fun e => e.2 == O) := by
  unfold seenF
  cases h : E.any (fun e => e.2 == O) <;> rfl
theorem seenF_snoc (E : List En) (L : List Int) (O : Nat) : (fun j => if j = O then some true else seenF E j) = seenF (E ++ [(L, O)]) := by
  funext j
  unfold seenF
  rw [List.any_append]
  by_cases h : j = O
  · subst h; simp
  · have h' : (O == j) = false := beq_eq_false_iff_ne.2 fun e => h e.symm
    simp only [List.any_cons, List.any_nil, if_neg h, h', Bool.or_false]
theorem RwE.chg {W W' : World} {lo lo' hi' : Nat} {eI : TypeId} {g x y : Nat} {v : Value} {L : List Int} (h : RwE true W lo eI g x y v L) (hc : Chg lo' hi' W W') (hd : hi' ≤ lo) : RwE true W' lo eI g x y v L := by
  obtain ⟨⟨a, c, hv, hi⟩, hn, ho⟩ := h
  have hz := hc.size
  have h1 := (ho rfl).chg hc (.inr hd)
  refine ⟨⟨a, c, hv, ?_⟩, fun b hbb hp => by obtain ⟨h1, h2, h3, h4⟩ := hn b hbb hp; exact ⟨h1, h2, h3, by omega⟩, fun _ => h1.mono (Nat.le_refl _) hz⟩
  rw [hv] at h1
  exact ic_of h1
theorem RwS.chg {W W' : World} {lo lo' hi' : Nat} {eS eI : TypeId} {g c x y : Nat} {vs : List Value} {Ls : List (List Int)} (h : RwS true W lo eS eI g c x y vs Ls) (hc : Chg lo' hi' W W') (hd : hi' ≤ lo) : RwS true W' lo eS eI g c x y vs Ls :=
  ⟨((Own.of h.row).chg hc (.inr hd)).row, fun i hi => (h.each i hi).chg hc hd, Nat.lt_of_lt_of_le h.gs hc.size⟩
/-- The state: the row holds E, the map M. -/
structure FsSt (P : Program) (W : World) (z : Nat) (eS eI tB : TypeId) (bx : Obj) (g c : Nat) (vs : List Value) (E M : List En) : Prop where
  row : RwS true W (z + 2) eS eI g c (z + 1) (z + 1) vs (lisE E)
  map : MpO P eI tB W (z + 1) M.length (seenF M)
  box : W.heap[z]? = some bx
variable {P : Program} {W W' : World} {z : Nat} {eS eI tB : TypeId} {bx : Obj} {g c : Nat} {vs : List Value} {E M : List En}
theorem FsSt.lt (h : FsSt P W z eS eI tB bx g c vs E M) : z < W.heap.size := (Array.getElem?_eq_some_iff.1 h.box).1
theorem FsSt.glo (h : FsSt P W z eS eI tB bx g c vs E M) : z + 2 ≤ g := own_block_lo h.row.row rfl
theorem FsSt.later (h : FsSt P W z eS eI tB bx g c vs E M) (hb : Below W.heap.size W W') : FsSt P W' z eS eI tB bx g c vs E M :=
  ⟨h.row.later hb, h.map.later hb, (hb.block z h.lt).trans h.box⟩
theorem FsSt.chg (h : FsSt P W z eS eI tB bx g c vs E M) (hc : Chg 0 z W W') : FsSt P W' z eS eI tB bx g c vs E M :=
  ⟨h.row.chg hc (by omega), h.map.keep (hc.block (z + 1) h.map.lt (.inr (by omega))), (hc.block z h.lt (.inr (Nat.le_refl _))).trans h.box⟩
theorem FsSt.store (h : FsSt P W z eS eI tB bx g c vs E M) (hg : W.grownBy W' (some (z + 1))) {L : List Int} {O : Nat} (hm : MpO P eI tB W' (z + 1) (M.length + 1) (fun j => if j = O then some true else seenF M j)) : FsSt P W' z eS eI tB bx g c vs E (M ++ [(L, O)]) := by
  have h1 := h.glo
  refine ⟨h.row.grown hg (.inl rfl) (by omega), ?_, (hg.block z h.lt (by simp)).trans h.box⟩
  rw [seenF_snoc (L := L)] at hm
  rw [List.length_append]; exact hm
theorem fs_push (h : FsSt P W z eS eI tB bx g c vs E M) {v : Value} {L : List Int} (O' : Nat) {g' c' : Nat} (he : RwE true W (z + 2) eI g (z + 1) (z + 1) v L) (o1 : Obj)
    (own5 : W'.ownsRow (z + 2) eS 1 (.slice (some ⟨g', 0, none⟩) (E.length + 1) c') (E.length + 1) (vs ++ [v])) (hg5 : (W.alloc o1).grownBy W' (some g)) (hat5 : g = g' ∨ g' = W.heap.size + 1) (hlt5 : g' < W'.heap.size) :
    FsSt P W' z eS eI tB bx g' c' (vs ++ [v]) (E ++ [(L, O')]) M ∧
    ∀ own u M', RwE own W (z + 2) eI g (z + 1) (z + 1) u M' → RwE own W' (z + 2) eI g' (z + 1) (z + 1) u M' := by
  have hA : Below W.heap.size W (W.alloc o1) := (Below.refl _ _).alloc (Nat.le_refl _) o1
  have h1 := h.later hA
  have z0 : (W.alloc o1).heap.size = W.heap.size + 1 := by simp
  have hat5' : g = g' ∨ (W.alloc o1).heap.size ≤ g' := by
    rcases hat5 with h | h
    · exact .inl h
    · exact .inr (by omega)
  have gl := h.glo
  have ml := h.map.lt
  obtain ⟨R2, -, -⟩ := h1.row.push (L := L) (he.later hA) (by omega) (by omega) (by omega) (by omega) (by simpa using own5) hg5 hat5' hlt5
  have e1 : lisE (E ++ [((L, O') : En)]) = lisE E ++ [L] := by simp [lisE]
  exact ⟨⟨by rw [e1]; exact R2, h1.map.kept hg5 (by simp; omega), (hg5.block z h1.lt (by simp; omega)).trans h1.box⟩, fun own u M' hu => (hu.later hA).move hg5 hat5'⟩
theorem fs_start {w2 : World} {o : Nat} (hm : MpO P eI tB w2 (z + 1) 1 (fun j => if j = 0 then some true else none)) (hb : w2.heap[z]? = some bx) :
    FsSt P ((w2.alloc (.cells #[] eI)).alloc (.cells #[.slice (some ⟨w2.heap.size, 0, none⟩) 0 0] eS)) z eS eI tB bx (w2.heap.size + 1) 1 [.slice (some ⟨w2.heap.size, 0, none⟩) 0 0] [(([], 0) : En)] [(([], 0) : En)] := by
  obtain ⟨W, hW⟩ : ∃ W, W = ((w2.alloc (.cells #[] eI)).alloc (.cells #[.slice (some ⟨w2.heap.size, 0, none⟩) 0 0] eS)) := ⟨_, rfl⟩
  have hbl : Below w2.heap.size w2 W := by rw [hW]; exact (((Below.refl _ _).alloc (by simp) _).alloc (by simp) _)
  have hz : W.heap.size = w2.heap.size + 2 := by rw [hW]; simp
  have ml := hm.lt
  have h0 : W.heap[w2.heap.size]? = some (.cells #[] eI) := by
    rw [hW]
    show (Array.push (Array.push w2.heap _) _)[w2.heap.size]? = _
    rw [Array.getElem?_push_lt (by simp), Array.getElem_push_eq]
  have h1 : W.heap[w2.heap.size + 1]? = some (.cells #[.slice (some ⟨w2.heap.size, 0, none⟩) 0 0] eS) := by
    rw [hW]
    show (Array.push (Array.push w2.heap _) _)[w2.heap.size + 1]? = _
    have : w2.heap.size + 1 = (Array.push w2.heap (.cells #[] eI)).size := by simp
    rw [this, Array.getElem?_push_size]
  rw [← hW]
  have e0 : seenF [(([], 0) : En)] = fun j => if j = 0 then some true else none := by
    funext j; unfold seenF
    by_cases h : j = 0
    · subst h; simp
    · have h' : ¬ 0 = j := fun e => h e.symm
      simp [h, h']
  refine ⟨⟨own_lit1 h1 (by omega), fun i hi => ?_, by omega⟩, by rw [e0]; exact hm.later hbl, (hbl.block z (by omega)).trans hb⟩
  have : i = 0 := by simpa using hi
  subst this
  refine ⟨⟨some ⟨w2.heap.size, 0, none⟩, 0, rfl, fun k hk => by simp [lisE] at hk⟩, fun b hbb hp => ?_, fun _ => ?_⟩
  · have : w2.heap.size = b := by simpa [Value.ownBlock] using hbb
    omega
  · refine Own.of ⟨rfl, .inr ⟨w2.heap.size, 0, #[], rfl, by omega, h0, Nat.le_refl _, by unfold maxLen; omega, rfl, rfl⟩⟩ |>.mono (Nat.le_refl _) (by omega)
theorem FsSt.cells (h : FsSt P W z eS eI tB bx g c vs E M) {v0 v1 v2 : Value} {t : TypeId} (hb : bx = .cells #[v0, v1, v2] t) : W.cell? ⟨z, 0, none⟩ = some v0 ∧ W.cell? ⟨z, 1, none⟩ = some v1 ∧ W.cell? ⟨z, 2, none⟩ = some v2 := by
  have := h.box
  rw [hb] at this
  exact ⟨by simp [World.cell?, this], by simp [World.cell?, this], by simp [World.cell?, this]⟩
end Go.KD

namespace Go.Proofs.Ytbaahghfjmkeoaa
open Go.RowKit Go.KD Go.Maps
attribute [local go_sem] later_cell later_frozen
theorem zeroBool (w : World) : (zeroValue 4).run Try.prog w = .ok (.bool false) w := by kernel_rfl
set_option maxRecDepth 100000 in
set_option maxHeartbeats 16000000 in
theorem first_c (F : FuncId) (fn : Func) (hf1 : Try.prog.funcs[F]? = some fn) (hf2 : (fn.name == "runtime.NumGoroutine") = false) (hf3 : fn.body.isNone = false) (caps : Array Value) (p : Nat → Bool) (J : Nat → World → Prop) (v : Value) (m : Mz) (w : World) (hg : goodB m = true)
    (hJ0 : J 0 w) (hJm : ∀ i W, J i W → MzAt W v m) (hJs : ∀ i W W', J i W → Below w.heap.size W W' → J i W')
    (hJc : ∀ i W O, J i W → w.heap.size ≤ W.heap.size → (∃ L, Opn m L O) → Calls Try.prog F (#[.int .i64 (O : Nat)] ++ caps) W fun e W' => e = .returned (.bool (p O)) ∧ J (i + 1) W' ∧ Chg 0 w.heap.size W W') :
    Calls Try.prog 78 #[v, .func (.func F) #[] caps] w fun e w' =>
    ∃ r i, e = .returned (.tuple #[r, .bool (fstE (srF m [([], 0)]) p).isSome]) ∧ J i w' ∧ (fstE (srF m [([], 0)]) p = none → i = (srF m [([], 0)]).length) ∧ w.heap.size ≤ w'.heap.size ∧ Own w.heap.size w'.heap.size w' 3 1 r ((fstE (srF m [([], 0)]) p).getD []).length (ints ((fstE (srF m [([], 0)]) p).getD [])) := by
  have hM := hJm 0 w hJ0
  obtain ⟨⟨ad, cd, ak, ck, rfl, hd, hk'⟩, nd, nk⟩ := hM
  obtain ⟨i0, ji, jz0, jz1, jz2⟩ := info_parts infoI
  obtain ⟨s0, si, sz0, sz1, sz2⟩ := info_parts infoS
  have OK := Lib.hid (good_ok hg)
  have HGD := Lib.hid hg
  have hng : m.doors.length ≤ 30 := OK.out.nd
  obtain ⟨E0, hE0⟩ : ∃ E0 : List En, E0 = [([], 0)] := ⟨_, rfl⟩
  have HSO : Hid (∀ i, SrOk m (srE m E0 i)) := by rw [hE0]; exact srE_ok (sr_one m (opn_nil m))
  have HE0 := Lib.hid hE0
  obtain ⟨bx, hbx⟩ : ∃ bx, bx = Obj.cells #[.int .i64 m.size, .slice ad m.doors.length cd, .slice ak m.keys.length ck] 29 := ⟨_, rfl⟩
  have HBX := Lib.hid hbx
  have HJ0 := Lib.hid hJ0
  have HJM := Lib.hid hJm
  have HJS := Lib.hid hJs
  have HJC := Lib.hid hJc
  have hcf := run_callFunc hf1 hf2 hf3
  have HMM : Hid (MpO Try.prog 3 4 ((w.alloc (.cells #[.int .i64 m.size, .slice ad m.doors.length cd, .slice ak m.keys.length ck] 29)).alloc (.map #[] 0)) (w.heap.size + 1) 0 (fun _ => none)) := by
    show MpO _ _ _ _ _ _ _
    have := MpO.made (w.alloc (.cells #[.int .i64 m.size, .slice ad m.doors.length cd, .slice ak m.keys.length ck] 29)) Try.prog 3 4
    simpa using this
  have hmm := @run_makeMap Try.prog
  have hg0 : Hid (∀ w2, World.grownBy ((w.alloc (.cells #[.int .i64 m.size, .slice ad m.doors.length cd, .slice ak m.keys.length ck] 29)).alloc (.map #[] 0)) w2 (some (w.heap.size + 1)) → w2.heap[w.heap.size]? = some bx ∧ Below w.heap.size w w2 ∧ w.heap.size + 2 ≤ w2.heap.size) := by
    intro w2 h
    have hz := h.size
    have e := h.block w.heap.size (by simp; omega) (by simp)
    refine ⟨e.trans ?_, Below.grown (((Below.refl _ _).alloc (Nat.le_refl _) _).alloc (by simp) _) h (by simp; omega) (fun b hb => by cases hb; omega), by simpa using hz⟩
    rw [hbx]
    show (Array.push (Array.push w.heap _) _)[w.heap.size]? = _
    rw [Array.getElem?_push_lt (by simp), Array.getElem_push_eq]
  rw [← hE0]
  clear hg hE0 hJ0 hJm hJs hJc hf1 hf2 hf3 hbx
  go_enter Try.func78, Try.ntmps78
  go_wp2_with (refine wpList_store_mpo _ rfl _ _ _ 62 (.inr rfl) 3 4 Try.underlying3 Try.underlying62 Try.underlying4 (w.heap.size + 1) 0 _ rfl HMM.out (by unfold maxLen; omega) 0 true rfl rfl (by omega) ?_; intro w2 hm2 hg2)
  have HX2 := hg0.out w2 hg2
  have HST := Lib.hid (fs_start (o := 0) (eS := 23) hm2 HX2.1)
  have HBE := Lib.hid HX2.2.1
  have hz2 := HX2.2.2
  clear hm2 hg2 HX2 hg0 HMM
  rw [← HE0.out] at HST
  go_loopw [8, 7] (fun i t wr => ∃ (k g c : Nat) (vs : List Value), i = .int .i64 k ∧ t = .slice (some ⟨g, 0, none⟩) (srE m E0 k).length c ∧ k ≤ (srE m E0 k).length ∧ k ≤ 1024 ∧ w.heap.size ≤ wr.heap.size ∧ Hid (FsSt Try.prog wr w.heap.size 23 3 4 bx g c vs (srE m E0 k) (srE m E0 k)) ∧ Hid (J k wr) ∧ Hid (∀ j, j < k → p ((srE m E0 k)[j]!).2 = false)) (fun i _ _ => 1024 - (intOf i).toNat)
  case atStart =>
    refine ⟨0, _, _, _, rfl, ?_, Nat.zero_le _, by omega, ?_, HST, HJS.out 0 _ _ HJ0.out ?_, fun j hj => by omega⟩
    · show _ = Value.slice _ E0.length _
      rw [HE0.out]; rfl
    · simp; omega
    · exact Below.alloc (Below.alloc HBE.out (by omega) _) (by simp; omega) _
  case round =>
    clear HST HBE
    obtain ⟨wo, rfl⟩ : ∃ wo : World, wo = wr := ⟨_, rfl⟩
    obtain ⟨k, g, c, vs, rfl, rfl, hk, hk2, hzo, HS, HJ, HP⟩ := hrel
    obtain ⟨E, hE⟩ : ∃ E, E = srE m E0 k := ⟨_, rfl⟩
    rw [← hE] at hk HS HP ⊢
    have HOE : Hid (SrOk m E) := by rw [hE]; exact HSO.out k
    have hle : E.length ≤ 1024 := HOE.out.le HGD.out
    have HE := Lib.hid hE
    clear hE
    by_cases hlt : k < E.length
    · have hkI : (k : Int) < (E.length : Int) := by omega
      have HNX : Hid (srE m E0 (k + 1) = expE m E k) := by show _ = _; rw [srE_next (by rw [← HE.out]; exact hlt), ← HE.out]
      obtain ⟨Lk, hLk⟩ : ∃ Lk, Lk = (E[k]!).1 := ⟨_, rfl⟩
      obtain ⟨Ok, hOk⟩ : ∃ Ok, Ok = (E[k]!).2 := ⟨_, rfl⟩
      have HOPk : Hid (Opn m Lk Ok) := by
        show Opn m Lk Ok
        rw [hLk, hOk]
        exact HOE.out.all E[k]! (by rw [getElem!_pos E k hlt]; exact List.getElem_mem hlt)
      have HLK := Lib.hid hLk
      have HOK2 := Lib.hid hOk
      obtain ⟨nxt, hnxt⟩ : ∃ nxt, nxt = nextL m Ok Lk := ⟨_, rfl⟩
      have HNXT := Lib.hid hnxt
      have hnl : nxt.length ≤ 30 := by rw [hnxt]; exact Nat.le_trans (nextL_len m Ok Lk) hng
      have hLk30 := opn_len OK.out HOPk.out
      have he := HS.out.row.each k (by simpa using hlt)
      rw [lisE_at hlt, ← hLk] at he
      obtain ⟨aK, cK, hvk, hik⟩ := he.ic
      have ek := HS.out.row.cell (i := k) (by simpa using hlt)
      rw [hvk] at ek
      have hgz := HS.out.row.gs
      have HIK := Lib.hid hik
      obtain ⟨q0, q1, q2⟩ := HS.out.cells HBX.out
      have HMZ := Lib.hid (HJM.out k wo HJ.out)
      have hOk30 : Ok < 1073741824 := bits_lt30 fun i hi => Nat.lt_of_lt_of_le ((opn_ok OK.out HOPk.out).lt i hi) hng
      have hzlt := HS.out.lt
      have HS2 : Hid (∀ W, Below wo.heap.size wo W → W.cell? ⟨w.heap.size, 0, none⟩ = some (.int .i64 m.size) ∧ W.cell? ⟨w.heap.size, 1, none⟩ = some (.slice ad m.doors.length cd) ∧ W.cell? ⟨w.heap.size, 2, none⟩ = some (.slice ak m.keys.length ck) ∧ W.cell? ⟨g, k, none⟩ = some (.slice aK Lk.length cK)) := fun W hW => ⟨(hW.cell (p := ⟨w.heap.size, 0, none⟩) hzlt).trans q0, (hW.cell (p := ⟨w.heap.size, 1, none⟩) hzlt).trans q1, (hW.cell (p := ⟨w.heap.size, 2, none⟩) hzlt).trans q2, (hW.cell (p := ⟨g, k, none⟩) hgz).trans ek⟩
      clear hLk hOk hnxt he hik
      go_upto_region 5 with fail
      go_cut [9] (fun s9 wx => s9 = .int .i64 (Ok : Nat) ∧ Hid (Below wo.heap.size wo wx))
      case first =>
        go_region_held3 (fun W => W.cell? ⟨w.heap.size, 0, none⟩ = some (.int .i64 m.size) ∧ W.cell? ⟨w.heap.size, 1, none⟩ = some (.slice ad m.doors.length cd) ∧ W.cell? ⟨w.heap.size, 2, none⟩ = some (.slice ak m.keys.length ck) ∧ W.cell? ⟨g, k, none⟩ = some (.slice aK Lk.length cK))
          (exact HS2.out _ (by repeat (first | exact Below.refl _ _ | exact HB8.out | apply Below.drew | apply below_drewN | (refine Below.setCell ?_ (by first | omega | (simp; done) | (simp; omega) | (dsimp only; omega)) _) | (refine Below.alloc ?_ (by first | omega | (simp; done) | (simp; omega) | (dsimp only; omega)) _))))
          ((go_at_call 93; refine (opening_c _ m _ _ Lk _ (HMZ.out.later (by repeat (first | exact Below.refl _ _ | apply Below.drew | apply below_drewN | (refine Below.setCell ?_ (by first | omega | (simp; done) | (simp; omega) | (dsimp only; omega)) _) | (refine Below.alloc ?_ (by first | omega | (simp; done) | (simp; omega) | (dsimp only; omega)) _)))) OK.out (HIK.out.later (by repeat (first | exact Below.refl _ _ | apply Below.drew | apply below_drewN | (refine Below.setCell ?_ (by first | omega | (simp; done) | (simp; omega) | (dsimp only; omega)) _) | (refine Below.alloc ?_ (by first | omega | (simp; done) | (simp; omega) | (dsimp only; omega)) _)))) (by omega)).mono ?_; rintro e w8 ⟨rfl, hb8⟩; have HB8 : Hid (Below wo.heap.size wo w8) := (Below.refl _ _).drew.trans hb8; clear hb8))
        all_goals
          go_wp2_with fail
          go_meet
          case rel => exact ⟨by rw [opn_N HOPk.out], HB8⟩
      case rest =>
        obtain ⟨rfl, HBC⟩ := hcut
        have hzc := HBC.out.size
        have HJC2 := Lib.hid (HJS.out k _ _ HJ.out (HBC.out.mono hzo))
        have HSC := Lib.hid (HS.out.later HBC.out)
        clear HS HJ HMZ HS2 q0 q1 q2 ek HIK
        go_wp2_with fail
        refine (HJC.out k _ Ok HJC2.out (by omega) ⟨Lk, HOPk.out⟩).mono ?_
        rintro e w5 ⟨rfl, hj5, hc5⟩
        have HS5 := Lib.hid (HSC.out.chg hc5)
        have HJ5 := Lib.hid hj5
        have hz5 := hc5.size
        obtain ⟨q0, q1, q2⟩ := HS5.out.cells HBX.out
        have ek := HS5.out.row.cell (i := k) (by simpa using hlt)
        rw [hvk] at ek
        have hz5g := HS5.out.row.gs
        have hg5lo := HS5.out.glo
        clear hj5 hc5 HSC HJC2 HBC
        cases hp : p Ok
        case true =>
          have HF : Hid (fstE (srF m E0) p = some Lk) := by
            have hpre : E <+: srF m E0 := by rw [HE.out]; exact srE_preF m E0 hk2
            show _ = _
            rw [fstE_at (i := k) (Nat.lt_of_lt_of_le hlt hpre.length_le) (fun j hj => by rw [pre_at hpre (by omega)]; exact HP.out j hj) (by rw [pre_at hpre hlt, ← HOK2.out]; exact hp), pre_at hpre hlt, ← HLK.out]
          have HOWN : Hid (Own w.heap.size w5.heap.size w5 3 1 (.slice aK Lk.length cK) Lk.length (ints Lk)) := by
            have := (HS5.out.row.each k (by simpa using hlt)).ow rfl
            rw [lisE_at hlt, ← HLK.out, hvk] at this
            exact this.mono (by omega) (Nat.le_refl _)
          clear hp
          go_wp2
          refine bodyPost_ret (v := .tuple #[.slice aK Lk.length cK, .bool true]) (by simp [results, Try.results78, go_sem]) rfl ?_
          refine ⟨_, k + 1, by rw [HF.out]; rfl, HJ5.out, fun h => (by rw [HF.out] at h; cases h), by omega, by rw [HF.out]; exact HOWN.out⟩
        case false =>
          have HPK : Hid (∀ j, j < k + 1 → p ((srE m E0 (k + 1))[j]!).2 = false) := by
            intro j hj
            have hpre : E <+: srE m E0 (k + 1) := by rw [HE.out]; exact srE_pre1 m E0 k
            rw [pre_at hpre (by omega)]
            rcases Nat.lt_or_ge j k with h | h
            · exact HP.out j h
            · obtain rfl : j = k := by omega
              rw [← HOK2.out]; exact hp
          clear hp HP
          go_wp2_with fail
          refine (nextLocks_c _ m Ok Lk _ (HJM.out _ _ HJ5.out) OK.out (opn_ok OK.out HOPk.out)).mono ?_
          rintro e w8 ⟨u8, rfl, ho8, hb8⟩
          rw [← HNXT.out] at ho8
          obtain ⟨a8, c8, rfl⟩ := own_slice ho8.row
          have HS8 := Lib.hid (HS5.out.later hb8)
          have hz8 := hb8.size
          have HJ8 := Lib.hid (HJS.out (k + 1) _ _ HJ5.out (hb8.mono (by omega)))
          have HN8 : Hid (RwE false w8 (w.heap.size + 2) 3 g (w.heap.size + 1) (w.heap.size + 1) (.slice a8 nxt.length c8) nxt) := by
            refine ⟨⟨a8, c8, rfl, ic_of ho8⟩, fun b hb _ => ?_, fun h => by cases h⟩
            obtain ⟨h1, h2⟩ := ho8.blocks b hb
            have h3 := HS5.out.map.lt
            omega
          clear HS5 HJ5 ho8 hb8 q0 q1 q2 ek hz5g hg5lo hgz hvk
          go_wp2
          go_loopw [44, 7] (fun jv t wr => ∃ (j g c : Nat) (vs : List Value), jv = .int .i64 j ∧ t = .slice (some ⟨g, 0, none⟩) (expJ m E k j).length c ∧ j ≤ nxt.length ∧ w.heap.size ≤ wr.heap.size ∧ Hid (FsSt Try.prog wr w.heap.size 23 3 4 bx g c vs (expJ m E k j) (expJ m E k j)) ∧ Hid (J (k + 1) wr) ∧ Hid (RwE false wr (w.heap.size + 2) 3 g (w.heap.size + 1) (w.heap.size + 1) (.slice a8 nxt.length c8) nxt)) (fun jv _ _ => nxt.length - (intOf jv).toNat)
          case atStart => exact ⟨0, g, c, vs, rfl, rfl, Nat.zero_le _, by omega, HS8, HJ8, HN8⟩
          case round =>
            clear HS8 HJ8 HN8 hz8 hz5 hzc
            obtain ⟨wi, rfl⟩ : ∃ wi : World, wi = wr := ⟨_, rfl⟩
            obtain ⟨j, g, c, vs, rfl, rfl, hj, hzi, HS, HJ, HN⟩ := hrel
            have hjE : j ≤ (nextL m (E[k]!).2 (E[k]!).1).length := by rw [← HOK2.out, ← HLK.out, ← HNXT.out]; exact hj
            have HOJ : Hid (SrOk m (expJ m E k j)) := expJ_ok HOE.out hlt j hjE
            obtain ⟨F, hF⟩ : ∃ F, F = expJ m E k j := ⟨_, rfl⟩
            have hpre : E <+: F := by rw [hF]; exact expJ_pre m E k j
            have hFk : F[k]! = E[k]! := pre_at hpre hlt
            have hFl : k < F.length := Nat.lt_of_lt_of_le hlt hpre.length_le
            rw [← hF] at HS HOJ ⊢
            have HF := Lib.hid hF
            have hFle : F.length ≤ 1024 := HOJ.out.le HGD.out
            have hgz := HS.out.row.gs
            have hglo := HS.out.glo
            clear hF
            by_cases hlt2 : j < nxt.length
            · have hjI : (j : Int) < (nxt.length : Int) := by omega
              obtain ⟨a8', c8', h8, hi8⟩ := HN.out.ic
              cases h8
              obtain ⟨b8, off8, xI, ha8, HX, hbs8, e8⟩ := hi8.at j hlt2
              subst ha8
              have hh : hasI (nextL m Ok Lk) xI = true := by rw [hasI_iff, ← HNXT.out, ← HX.out, getElem!_pos nxt j hlt2]; exact List.getElem_mem hlt2
              obtain ⟨x, rfl, hxd⟩ := next_nat hh
              obtain ⟨p2, HP2, ep, hp2⟩ := shl_at30 x (by omega)
              have hx30 : (x : Int) < 30 := by omega
              have eo : bits .or .i64 (Ok : Int) (p2 : Int) = ((Ok ||| p2 : Nat) : Int) := i64_or Ok p2 (by omega) (by omega)
              have hO2 : Ok ||| p2 < 1073741824 := Nat.or_lt_two_pow (n := 30) hOk30 hp2
              have HSET : Hid (setN Ok (x : Int) = Ok ||| p2) := by show _ = _; rw [HP2.out]; simp [setN]
              have HJS2 : Hid (expJ m E k (j + 1) = addE Lk Ok F x) := by
                show _ = _
                rw [expJ_step m E k (by rw [← HOK2.out, ← HLK.out, ← HNXT.out]; exact hlt2), ← HF.out, ← HLK.out, ← HOK2.out, ← HNXT.out, HX.out]
              have he := HS.out.row.each k (by simpa using hFl)
              rw [lisE_at hFl, hFk, ← HLK.out] at he
              obtain ⟨aK, cK, hvk, hik⟩ := he.ic
              have HVK := Lib.hid hvk
              have HFK := Lib.hid hFk
              have hkF : (k : Int) < (F.length : Int) := by omega
              have hLn : (Lk ++ [(x : Int)]).length = Lk.length + 1 := by simp
              have HLN := Lib.hid hLn
              clear hh he hvk hik hi8 hpre hFk hLn
              cases hany : F.any (fun e => e.2 == Ok ||| p2)
              case true =>
                have HJN : Hid (expJ m E k (j + 1) = F) := by show _ = _; rw [HJS2.out]; exact addE_no (by rw [HSET.out]; exact hany)
                go_wp2_with (at_lookup; refine wpList_lookup_mpo _ rfl _ _ 62 rfl 3 4 Try.underlying3 Try.underlying62 Try.underlying4 (zeroBool _) (w.heap.size + 1) F.length (seenF F) rfl HS.out.map (Ok ||| p2) rfl (by omega) ?_; rw [seenF_get, hany])
                go_roundw
                case rel => exact ⟨j + 1, g, c, vs, by go_num, by rw [HJN.out], by omega, hzi, by rw [HJN.out]; exact HS, HJ, HN⟩
                case measure => simp [intOf]; omega
              case false =>
                have HJN : Hid (expJ m E k (j + 1) = F ++ [(Lk ++ [(x : Int)], Ok ||| p2)]) := by show _ = _; rw [HJS2.out, addE_yes (by rw [HSET.out]; exact hany), HSET.out]
                have HMO := Lib.hid HS.out.map
                go_upto_region 13 with (at_lookup; refine wpList_lookup_mpo _ rfl _ _ 62 rfl 3 4 Try.underlying3 Try.underlying62 Try.underlying4 (zeroBool _) (w.heap.size + 1) F.length (seenF F) rfl HMO.out (Ok ||| p2) rfl (by omega) ?_; rw [seenF_get, hany])
                go_upto_region 14 with (at_mapUpdate; refine wpList_store_mpo _ rfl _ _ _ 62 (.inl rfl) 3 4 Try.underlying3 Try.underlying62 Try.underlying4 (w.heap.size + 1) F.length _ rfl HMO.out (by unfold maxLen; omega) (Ok ||| p2) true rfl rfl (by omega) ?_; intro w6 hm6 hg6)
                have HS6 := Lib.hid (HS.out.store (L := Lk ++ [(x : Int)]) hg6 hm6)
                have hz6 := hg6.size
                have HN6 := Lib.hid (HN.out.grown hg6 (.inr (.inl rfl)))
                have HJ6 := Lib.hid (HJS.out (k + 1) _ w6 HJ.out (Below.grown (Below.refl _ _) hg6 hzi (fun b hb => by cases hb; omega)))
                have ek := HS6.out.row.cell (i := k) (by simpa using hFl)
                rw [HVK.out] at ek
                have HIK : Hid (IC w6 aK Lk) := by
                  have he := HS6.out.row.each k (by simpa using hFl)
                  rw [lisE_at hFl, HFK.out, ← HLK.out, HVK.out] at he
                  obtain ⟨a', c', hv', hi'⟩ := he.ic
                  cases hv'
                  exact hi'
                have hgz6 := HS6.out.row.gs
                have hml6 := HS6.out.map.lt
                have hz6' : w.heap.size ≤ w6.heap.size := by omega
                clear hm6 hg6 HS HJ HN HMO
                go_wp2_with fail
                refine (clone_c _ _ _ Lk _ rfl HIK.out (by omega)).mono ?_
                rintro e w7 ⟨v7, rfl, ho7, hb7⟩
                obtain ⟨a7, c7, rfl⟩ := own_slice ho7
                have HB7 := Lib.hid hb7
                have HO7 := Lib.hid ho7
                have hz7 := hb7.size
                have HR7 : Hid (w7.ownsRow (w.heap.size + 2) 23 1 (.slice (some ⟨g, 0, none⟩) F.length c) F.length vs) := by have := (HS6.out.later hb7).row.row; rw [lisE_len] at this; exact this
                clear ho7 hb7 ek HIK
                go_wp2_with (first
                  | (at_builtin; refine wpList_append_lies _ rfl _ _ 23 rfl w6.heap.size 3 i0 (.int .i64 0) 1 8 Try.underlying23 ji jz0 jz1 jz2 rfl (by decide) (.slice a7 Lk.length c7) _ _ rfl (HO7.out.alloc _) ⟨w7.heap.size, 0, none⟩ 1 1 [.int .i64 (x : Int)] rfl rfl ?_ ?_ (by omega) ?_ ?_ ?_ (w7.heap.size + 1) ?_ ?_; (exact news_one (by simp [go_sem])); (simp [Value.oneCell']); (unfold maxLen; omega); omega; (simp; omega); (simp); intro gn cn w9 hown9 hgrow9 hat9 hlt9; have HB9 : Hid (Below w6.heap.size w6 w9) := Below.grown (HB7.out.alloc hz7 _) hgrow9 (by simp; omega) (fun b hb => own_block_lo HO7.out hb); have HO9 := Lib.hid hown9; clear hown9 hgrow9 hat9; have hz9 := HB9.out.size; have HR9 : Hid (w9.ownsRow (w.heap.size + 2) 23 1 (.slice (some ⟨g, 0, none⟩) F.length c) F.length vs) := (by have := (HS6.out.later HB9.out).row.row; rw [lisE_len] at this; exact this))
                  | (at_builtin; refine wpList_append_lies _ rfl _ _ 73 rfl (w.heap.size + 2) 23 s0 (.slice none 0 0) 1 24 Try.underlying73 si sz0 sz1 sz2 rfl (by decide) (.slice (some ⟨g, 0, none⟩) F.length c) _ _ rfl (HR9.out.alloc _) ⟨w9.heap.size, 0, none⟩ 1 1 [.slice (some ⟨gn, 0, none⟩) (Lk.length + 1) cn] rfl rfl ?_ ?_ (by omega) ?_ ?_ ?_ (w9.heap.size + 1) ?_ ?_; (exact cell_one_new _ _ _); (simp [Value.oneCell']); (unfold maxLen; omega); omega; (simp; omega); (simp); intro g5 c5 w5 hown5 hgrow5 hat5 hlt5))
                have HE9 : Hid (RwE true w9 (w.heap.size + 2) 3 g (w.heap.size + 1) (w.heap.size + 1) (.slice (some ⟨gn, 0, none⟩) (Lk.length + 1) cn) (Lk ++ [(x : Int)])) := by
                  have h1 := HO9.out
                  rw [← ints_snoc] at h1
                  have hlo := own_block_lo h1 (g := gn) rfl
                  refine ⟨⟨_, cn, by rw [HLN.out], ic_of' (Own.of h1) HLN.out.symm⟩, fun b hb _ => ?_, fun _ => ?_⟩
                  · have : gn = b := by simpa [Value.ownBlock] using hb
                    omega
                  · rw [HLN.out]; exact (Own.of h1).mono (by omega) (Nat.le_refl _)
                have HS9 := Lib.hid (HS6.out.later HB9.out)
                have HN9 := Lib.hid (HN6.out.later HB9.out)
                have hat5' : g = g5 ∨ g5 = w9.heap.size + 1 := by
                  rcases hat5 with h | h
                  · exact .inl (by simpa [Value.ownBlock] using h)
                  · exact .inr h
                have HPU := Lib.hid (fs_push HS9.out (Ok ||| p2) HE9.out _ hown5 hgrow5 hat5' hlt5)
                have hz5 := hgrow5.size
                have HJ5 := Lib.hid (HJS.out (k + 1) _ w5 HJ6.out ((HB9.out.mono hz6').trans (Below.grown (Below.alloc (Below.refl _ _) (by omega) _) hgrow5 (by simp; omega) (fun b hb => by have : g = b := (by simpa [Value.ownBlock] using hb); omega))))
                have hz5' : w.heap.size ≤ w5.heap.size := by simp at hz5; omega
                clear hown5 hgrow5 hat5 hat5' hlt5 hz5 HS9 HE9 HO9 HR9 HR7 HO7 HB7
                go_wp2_with fail
                go_roundw
                case rel => exact ⟨j + 1, g5, c5, vs ++ [.slice (some ⟨gn, 0, none⟩) (Lk.length + 1) cn], by go_num, by rw [HJN.out, List.length_append]; rfl, by omega, hz5', by rw [HJN.out]; exact HPU.out.1, HJ5, HPU.out.2 _ _ _ HN9.out⟩
                case measure => simp [intOf]; omega
            · obtain rfl : j = nxt.length := by omega
              have HEND : Hid (F = srE m E0 (k + 1)) := by
                show _ = _
                rw [HNX.out, HF.out]
                unfold expE
                rw [← HOK2.out, ← HLK.out, ← HNXT.out]
              go_wp2
              go_roundw
              case rel => exact ⟨k + 1, g, c, vs, by go_num, by rw [← HEND.out], by rw [← HEND.out]; omega, by omega, hzi, by rw [← HEND.out]; exact HS, HJ, HPK⟩
              case measure => simp [intOf]; omega
    · obtain rfl : k = E.length := by omega
      have HEND : Hid (srF m E0 = E) := by
        show _ = _
        rw [srF_eq (i := E.length) (by omega) (by rw [← HE.out]; exact Nat.le_refl _)]
        exact HE.out.symm
      have HF : Hid (fstE (srF m E0) p = none) := by show _ = _; rw [HEND.out]; exact fstE_none HP.out
      go_wp2
      refine bodyPost_ret (v := .tuple #[.slice none 0 0, .bool false]) (by simp [results, Try.results78, go_sem]) rfl ?_
      exact ⟨_, E.length, by rw [HF.out]; rfl, HJ.out, fun _ => by rw [HEND.out], hzo, by rw [HF.out]; exact ⟨⟨rfl, .inl ⟨rfl, rfl⟩⟩, fun g h => by cases h⟩⟩
end Go.Proofs.Ytbaahghfjmkeoaa
