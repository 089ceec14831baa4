/- Sorted lists and sets of small numbers. No program is named here. Draws of sets of colours: few, colours, sets. Mazes and works that a draw makes: plain words. l1Put: a number put to its place in a sorted list. Rows that stand in memory, plain words for what puts an entry in. A queue of numbers: a slice that is cut at its front and appended to. No program is named here. Nodes of a maze as binary digits: steps, keys, what can be entered next, the largest entry set. No program is named here. Complete entry orders, and all that can be entered. No program is named here. -/
import Derived.Test.YtcjcgcgcloanpaaKps0
import Derived.Lib.SliceRun
import Derived.IntWalk
import Derived.Laws.AppendOwn
import Derived.Deep.OwnRows
import Derived.Maps.AppendAt
import Derived.Deep.WholeRow
import Derived.Deep.AppendLies
import Derived.Deep.RegionLaw
import Derived.Deep.Upon
set_option linter.unusedVariables false
set_option linter.unusedSimpArgs false
namespace Go.KD
def setN (s : Nat) (a : Int) : Nat := s ||| 2 ^ a.toNat
theorem setN_lt {s : Nat} {a : Int} (hs : s < 4096) (ha : 0 ≤ a ∧ a < 12) : setN s a < 4096 := by
  unfold setN
  have h1 : 2 ^ a.toNat < 2 ^ 12 := Nat.pow_lt_pow_right (by omega) (by omega)
  exact Nat.or_lt_two_pow (n := 12) hs h1
end Go.KD
namespace Go.KD
open Go.RowKit Go.Lib
theorem shl_at (y : Nat) (hy : y < 12) : ∃ p : Nat, Hid (p = 2 ^ y) ∧ IntKind.i64.wrap (2 ^ y) = (p : Int) ∧ p < 4096 := by
  refine ⟨2 ^ y, rfl, ?_, Nat.pow_lt_pow_right (n := 12) (by omega) hy⟩
  have h : 2 ^ y < 2 ^ 12 := Nat.pow_lt_pow_right (by omega) hy
  have e : ((2 ^ y : Nat) : Int) = 2 ^ y := by simp
  rw [← e]
  generalize 2 ^ y = q at h
  exact IntWalk.i64_in _ (by omega)
end Go.KD
namespace Go.KD
open Go.RowKit
def putL : List Int → Int → List Int
  | [], n => [n]
  | x :: l, n => if x < n then x :: putL l n else if x = n then x :: l else n :: x :: l
theorem putL_eq : ∀ (l : List Int) (n : Int) (k : Nat), k ≤ l.length → (∀ j, j < k → l[j]! < n) → (k < l.length → ¬ l[k]! < n) → putL l n = if k < l.length ∧ l[k]! = n then l else l.take k ++ n :: l.drop k
  | [], n, k, hk, _, _ => by
    obtain rfl : k = 0 := by simpa using hk
    simp [putL]
  | x :: l, n, 0, _, _, h => by
    have h := h (by simp)
    simp only [List.getElem!_cons_zero] at h
    by_cases hx : x = n
    · simp [putL, hx]
    · simp [putL, h, hx]
  | x :: l, n, k + 1, hk, hj, h => by
    have h0 := hj 0 (by omega)
    simp only [List.getElem!_cons_zero] at h0
    have ih := putL_eq l n k (by simpa using hk) (fun j hjk => by have := hj (j + 1) (by omega); simpa using this) (fun hkl => by have := h (by simpa using hkl); simpa using this)
    simp only [putL, h0, if_true, ih, List.length_cons, Nat.add_lt_add_iff_right, List.getElem!_cons_succ, List.take_succ_cons, List.drop_succ_cons, List.cons_append]
    split <;> rfl
theorem mem_putL : ∀ (l : List Int) (n y : Int), y ∈ putL l n ↔ y ∈ l ∨ y = n
  | [], n, y => by simp [putL]
  | x :: l, n, y => by
    unfold putL
    split
    · simp [mem_putL l n y, or_assoc]
    · split
      · rename_i h; subst h; simp; intro h; exact .inl h
      · simp only [List.mem_cons]; constructor
        · rintro (h | h | h) <;> simp [h]
        · rintro ((h | h) | h) <;> simp [h]
theorem putL_sorted : ∀ (l : List Int) (n : Int), l.Pairwise (· < ·) → (putL l n).Pairwise (· < ·)
  | [], n, _ => by simp [putL]
  | x :: l, n, h => by
    rw [List.pairwise_cons] at h
    unfold putL
    split
    · rename_i hx
      rw [List.pairwise_cons]
      refine ⟨fun y hy => ?_, putL_sorted l n h.2⟩
      rcases (mem_putL l n y).1 hy with hy | rfl
      · exact h.1 y hy
      · exact hx
    · split
      · exact List.pairwise_cons.2 h
      · rename_i h1 h2
        rw [List.pairwise_cons]
        refine ⟨fun y hy => ?_, List.pairwise_cons.2 h⟩
        rcases List.mem_cons.1 hy with rfl | hy
        · omega
        · have := h.1 y hy; omega
theorem sorted_ext : ∀ (a b : List Int), a.Pairwise (· < ·) → b.Pairwise (· < ·) → (∀ x, x ∈ a ↔ x ∈ b) → a = b
  | [], [], _, _, _ => rfl
  | [], y :: b, _, _, h => absurd ((h y).2 (by simp)) (by simp)
  | x :: a, [], _, _, h => absurd ((h x).1 (by simp)) (by simp)
  | x :: a, y :: b, ha, hb, h => by
    rw [List.pairwise_cons] at ha hb
    have hxy : x = y := by
      rcases List.mem_cons.1 ((h x).1 (by simp)) with e | e
      · exact e
      · rcases List.mem_cons.1 ((h y).2 (by simp)) with e' | e'
        · exact e'.symm
        · have h1 := hb.1 x e; have h2 := ha.1 y e'; omega
    subst hxy
    congr 1
    refine sorted_ext a b ha.2 hb.2 fun z => ⟨fun hz => ?_, fun hz => ?_⟩
    · rcases List.mem_cons.1 ((h z).1 (by simp [hz])) with e | e
      · have := ha.1 z hz; omega
      · exact e
    · rcases List.mem_cons.1 ((h z).2 (by simp [hz])) with e | e
      · have := hb.1 z hz; omega
      · exact e
theorem in_mem (s : Nat) (y : Int) : y ∈ mem s ↔ ∃ i : Nat, i < 40 ∧ s.testBit i = true ∧ y = i := by
  simp only [mem, memN, List.mem_map, List.mem_filter, List.mem_range]
  constructor
  · rintro ⟨i, ⟨h1, h2⟩, rfl⟩; exact ⟨i, h1, h2, rfl⟩
  · rintro ⟨i, h1, h2, rfl⟩; exact ⟨i, ⟨h1, h2⟩, rfl⟩
theorem mem_sorted (s : Nat) : (mem s).Pairwise (· < ·) := by
  unfold mem memN
  rw [List.pairwise_map]
  refine (List.pairwise_lt_range.filter _).imp fun h => by omega
theorem put_mem (p : List Int) (hp : p = [] ∨ p = [-1]) (s n : Nat) (hn : n < 40) : putL (p ++ mem s) n = p ++ mem (s ||| 2 ^ n) := by
  have hs : ∀ t : Nat, (p ++ mem t).Pairwise (· < ·) := by
    intro t
    rcases hp with rfl | rfl
    · exact mem_sorted t
    · show ((-1 : Int) :: mem t).Pairwise _
      rw [List.pairwise_cons]
      refine ⟨fun y hy => ?_, mem_sorted t⟩
      obtain ⟨i, _, _, rfl⟩ := (in_mem t y).1 hy
      omega
  refine sorted_ext _ _ (putL_sorted _ _ (hs s)) (hs _) fun y => ?_
  rw [mem_putL, List.mem_append, List.mem_append, in_mem, in_mem]
  constructor
  · rintro ((h | ⟨i, h1, h2, rfl⟩) | rfl)
    · exact .inl h
    · exact .inr ⟨i, h1, by simp [h2], rfl⟩
    · exact .inr ⟨n, hn, by simp [Nat.testBit_two_pow], rfl⟩
  · rintro (h | ⟨i, h1, h2, rfl⟩)
    · exact .inl (.inl h)
    · rw [Nat.testBit_or, Bool.or_eq_true] at h2
      rcases h2 with h2 | h2
      · exact .inl (.inr ⟨i, h1, h2, rfl⟩)
      · rw [Nat.testBit_two_pow] at h2
        have : n = i := by simpa using h2
        subst this
        exact .inr rfl
end Go.KD

namespace Go.KD
open Go.RowKit
theorem ic_litC {w w' : World} {c n g : Nat} {e : TypeId} {cs : Array Value} {l : List Int} (hcs : cs.toList = ints l) (hn : n = l.length) (hm : n ≤ 100) (hc : c < w.heap.size) (h : Chg c (c + 1) (w.alloc (.cells cs e)) w') (hg : w.heap.size = g) : IC w' (some ⟨g, 0, none⟩) l := by
  subst hn
  subst hg
  have hl := World.ownsRow_lit (base := w.heap.size) (e := e) (size := 1) w cs l.length (Nat.le_refl _) (by unfold maxLen; omega) (by have := congrArg List.length hcs; simp at this; omega)
  rw [hcs] at hl
  have ho : Own w.heap.size (w.alloc (.cells cs e)).heap.size (w.alloc (.cells cs e)) e 1 _ l.length (ints l) := Own.of hl
  exact ic_of (ho.chg h (.inr (by omega)))
/-- Cursor and world behind some draws. -/
structure CuW (c n : Nat) (w w' : World) : Prop where
  ch : Chg c (c + 1) w w'
  cu : Cu c n w'
theorem CuW.mono {c n n' : Nat} {w w' : World} (h : CuW c n w w') (hn : n ≤ n') : CuW c n' w w' := ⟨h.ch, h.cu.mono hn⟩
theorem CuW.trans {c n n' : Nat} {w w1 w2 : World} (h : CuW c n w w1) (k : CuW c n' w1 w2) : CuW c n' w w2 := ⟨h.ch.trans k.ch, k.cu⟩
theorem CuW.refl {c n : Nat} {w : World} (h : Cu c n w) : CuW c n w w := ⟨Chg.refl _ _ _, h⟩
theorem CuW.below {c n B : Nat} {w w1 w2 : World} (h : CuW c n w w1) (k : Below B w1 w2) (hB : w1.heap.size ≤ B) : CuW c n w w2 := ⟨h.ch.then_below k hB, h.cu.later k (by have := h.cu.lt; omega)⟩
theorem CuW.alloc {c n : Nat} {w w1 : World} (h : CuW c n w w1) (o : Obj) : CuW c n w (w1.alloc o) := h.below ((Below.refl _ _).alloc (Nat.le_refl _) o) (Nat.le_refl _)
theorem CuW.drewN {c n : Nat} {w w1 : World} (h : CuW c n w w1) (k : Nat) : CuW c n w (w1.drewN k) := h.below (below_drewN (Below.refl _ _) k) (Nat.le_refl _)
theorem CuW.drew {c n : Nat} {w w1 : World} (h : CuW c n w w1) : CuW c n w w1.drew := h.below (Below.refl _ _).drew (Nat.le_refl _)
theorem CuW.grown {c n base : Nat} {w w1 w2 : World} {row : Option Nat} (h : CuW c n w w1) (hg : w1.grownBy w2 row) (hr : ∀ g, row = some g → base ≤ g) (hb : w.heap.size ≤ base) (hc : c < w.heap.size) : CuW c n w w2 := by
  have hs := h.ch.size
  refine ⟨⟨hg.os.trans h.ch.os, hg.tape.trans h.ch.tape, hg.output.trans h.ch.output, Nat.le_trans h.ch.size hg.size, fun k hk hd => ?_⟩, h.cu.same hg.size fun k hk => ?_⟩
  · rw [hg.block k (by omega) (fun e => by have := hr k e.symm; omega)]
    exact h.ch.block k hk hd
  · exact hg.block k (by have := h.cu.lt; omega) (fun e => by have := hr k e.symm; omega)
theorem own_chgC {w1 w2 : World} {base c size n : Nat} {e : TypeId} {v : Value} {xs : List Value} (h : w1.ownsRow base e size v n xs) (hc : Chg c (c + 1) w1 w2) (hb : c < base) : w2.ownsRow base e size v n xs := ((Own.of h).chg hc (.inr (by omega))).row
/-- A number that a draw gives. -/
def SomeI (c n : Nat) (w : World) (e : Ending) (w' : World) : Prop := ∃ x : Int, e = .returned (.int .i64 x) ∧ wfI x ∧ CuW c n w w'
/-- A list that a draw gives. -/
def ListP (c n k : Nat) (e0 : TypeId) (w : World) (e : Ending) (w' : World) : Prop := ∃ v, ∃ L : List Int, e = .returned v ∧ w'.ownsRow w.heap.size e0 1 v L.length (ints L) ∧ L.length ≤ k ∧ (∀ x ∈ L, wfI x) ∧ CuW c n w w'
theorem wfI_small {x : Int} (h0 : -4611686018427387904 ≤ x) (h1 : x ≤ 4611686018427387904) : wfI x := by
  have h : IntKind.i64.min ≤ x ∧ x ≤ IntKind.i64.max := ⟨Int.le_trans (by decide) h0, Int.le_trans h1 (by decide)⟩
  simpa [wfI, Lit.wf] using h
theorem own_belowW' {w w' : World} {lo size n : Nat} {e : TypeId} {v : Value} {xs : List Value} (h : w.ownsRow lo e size v n xs) (hb : Below w.heap.size w w') : w'.ownsRow lo e size v n xs := ((Own.of h).later hb (Nat.le_refl _)).row
end Go.KD
namespace Go.Proofs.Ytcjcgcgcloanpaa
open Go.RowKit Go.KD
attribute [local go_sem] later_cell later_frozen
set_option maxHeartbeats 4000000 in
theorem few_c (c n k : Nat) (hk0 : 0 < k) (hk : k ≤ 6) (hn : n ≤ 800000) (w : World) (h : Cu c n w) : Calls Try.prog 181 #[.pointer (some ⟨c, 0, none⟩), .int .i64 k] w (NatP c (n + 6) 64 w) := by
  have HC := Lib.hid h
  have hcz := h.lt
  clear h
  go_enter Try.func181, Try.ntmps181
  go_wp2_with fail
  refine (among_c c n 5 5 _ [0, 1, 1, 1, 2] rfl (by omega) (by omega) (by omega) _ (HC.out.later ((Below.refl _ _).alloc (Nat.le_refl _) _) hcz) (fun w' hc => ic_litC rfl rfl (by decide) hcz hc rfl)).mono ?_
  rintro e w1 ⟨x, rfl, hx, hc1, hu1⟩
  obtain ⟨j, rfl, hj⟩ : ∃ j : Nat, x = j ∧ j ≤ 2 := by simp at hx; exact ⟨x.toNat, by omega, by omega⟩
  have HW1 : Hid (CuW c (n + 2) w w1) := ((CuW.refl HC.out).alloc _).trans ⟨hc1, hu1⟩
  clear hx hc1 hu1
  go_wp2_with fail
  go_loopw [5, 6] (fun s i wr => ∃ t j : Nat, s = .int .i64 t ∧ t < 64 ∧ i = .int .i64 j ∧ j ≤ 2 ∧ Hid (CuW c (n + 6 - 2 * j) w wr)) (fun _ i _ => (intOf i).toNat)
  case atStart => exact ⟨0, j, rfl, by omega, rfl, hj, HW1.out.mono (by omega)⟩
  case round =>
    clear HW1 hj
    obtain ⟨wi, rfl⟩ : ∃ wi : World, wi = wr := ⟨_, rfl⟩
    obtain ⟨t, j, rfl, ht, rfl, hj, HW⟩ := hrel
    by_cases h0 : 0 < j
    · have h0I : (0 : Int) < (j : Int) := by omega
      go_wp2_with fail
      refine (pick_c c (n + 6 - 2 * j) k hk0 (by omega) (by omega) _ HW.out.cu).mono ?_
      rintro e w2 ⟨r, rfl, hr, hc2, hu2⟩
      obtain ⟨p, HP, ep, hp⟩ := shl_at r (by omega)
      have hp64 : p < 64 := by rw [HP.out]; exact Nat.pow_lt_pow_right (n := 6) (by omega) (by omega)
      have eo : bits .or .i64 (t : Int) (p : Int) = ((t ||| p : Nat) : Int) := i64_or t p (by omega) (by omega)
      have ht2 : t ||| p < 64 := Nat.or_lt_two_pow (n := 6) ht hp64
      have HW2 : Hid (CuW c (n + 6 - 2 * (j - 1)) w w2) := (HW.out.trans ⟨hc2, hu2⟩).mono (by omega)
      have hr63 : (r : Int) < 64 := by omega
      have hr0 : (0 : Int) ≤ (r : Int) := by omega
      clear hc2 hu2
      go_wp2_with fail
      go_roundw
      case rel => exact ⟨t ||| p, j - 1, rfl, ht2, by go_num, by omega, HW2⟩
      case measure => simp [intOf]; omega
    · obtain rfl : j = 0 := by omega
      go_wp2
      go_ret
      exact ⟨t, rfl, ht, HW.out.ch, HW.out.cu.mono (by omega)⟩

end Go.Proofs.Ytcjcgcgcloanpaa
namespace Go.KD
open Go.RowKit
theorem chg_frozen {lo hi : Nat} {w w' : World} (h : Chg lo hi w w') {b o : Nat} (hp : b < w.heap.size) (hd : b < lo ∨ hi ≤ b) : w'.frozen? ⟨b, o, none⟩ = w.frozen? ⟨b, o, none⟩ := by
  unfold World.frozen?
  simp only
  rw [h.block b hp hd]
/-- A struct of three fields in block g, its two rows in memory of the call. -/
structure WB (c n base g : Nat) (e4 e1 : TypeId) (s4 : Nat) (w W : World) (sz : Int) (xg : List Value) (ng : Nat) (vg : Value) (pl : List Int) (vp : Value) : Prop where
  cu : CuW c n w W
  c0 : W.cell? ⟨g, 0, none⟩ = some (.int .i64 sz)
  c1 : W.cell? ⟨g, 1, none⟩ = some vg
  c2 : W.cell? ⟨g, 2, none⟩ = some vp
  fz : ∀ o, o < 3 → W.frozen? ⟨g, o, none⟩ = false
  rg : W.ownsRow base e4 s4 vg ng xg
  rp : W.ownsRow base e1 1 vp pl.length (ints pl)
  ap : ∀ b, vg.ownBlock = some b → vp.ownBlock ≠ some b
  gg : vg.ownBlock ≠ some g
  gp : vp.ownBlock ≠ some g
  gb : base ≤ g
  gz : g < W.heap.size
  bb : c < w.heap.size
  wb : w.heap.size ≤ base
variable {c n n' base g s4 ng : Nat} {e4 e1 : TypeId} {w W W2 W3 : World} {sz : Int} {xg : List Value} {vg vp : Value} {pl : List Int}
theorem WB.draw (h : WB c n base g e4 e1 s4 w W sz xg ng vg pl vp) (k : CuW c n' W W2) : WB c n' base g e4 e1 s4 w W2 sz xg ng vg pl vp := by
  have hb := h.bb
  have hg := h.gb
  have hw := h.wb
  have hne : g < c ∨ c + 1 ≤ g := .inr (by omega)
  exact ⟨h.cu.trans k, (k.ch.cell (p := ⟨g, 0, none⟩) h.gz hne).trans h.c0, (k.ch.cell (p := ⟨g, 1, none⟩) h.gz hne).trans h.c1, (k.ch.cell (p := ⟨g, 2, none⟩) h.gz hne).trans h.c2,
    fun o ho => (chg_frozen k.ch h.gz hne).trans (h.fz o ho), own_chgC h.rg k.ch (by omega), own_chgC h.rp k.ch (by omega), h.ap, h.gg, h.gp, hg, Nat.lt_of_lt_of_le h.gz k.ch.size, hb, h.wb⟩
theorem WB.below {B : Nat} (h : WB c n base g e4 e1 s4 w W sz xg ng vg pl vp) (k : Below B W W2) (hB : W.heap.size ≤ B) : WB c n base g e4 e1 s4 w W2 sz xg ng vg pl vp :=
  h.draw ((CuW.refl h.cu.cu).below k hB)
theorem WB.alloc (h : WB c n base g e4 e1 s4 w W sz xg ng vg pl vp) (o : Obj) : WB c n base g e4 e1 s4 w (W.alloc o) sz xg ng vg pl vp := h.below ((Below.refl _ _).alloc (Nat.le_refl _) o) (Nat.le_refl _)
theorem WB.drew (h : WB c n base g e4 e1 s4 w W sz xg ng vg pl vp) : WB c n base g e4 e1 s4 w W.drew sz xg ng vg pl vp := h.below (Below.refl _ _).drew (Nat.le_refl _)
theorem WB.drewN (h : WB c n base g e4 e1 s4 w W sz xg ng vg pl vp) (k : Nat) : WB c n base g e4 e1 s4 w (W.drewN k) sz xg ng vg pl vp := h.below (below_drewN (Below.refl _ _) k) (Nat.le_refl _)
theorem WB.mono (h : WB c n base g e4 e1 s4 w W sz xg ng vg pl vp) (hn : n ≤ n') : WB c n' base g e4 e1 s4 w W sz xg ng vg pl vp := { h with cu := h.cu.mono hn }
theorem cuw_set (h : CuW c n w W) {a : Addr} (h1 : c < a.block) (h2 : w.heap.size ≤ a.block) (u : Value) : CuW c n w (W.setCell a u) := by
  have hg := grown_setCell W a u
  refine ⟨⟨hg.os.trans h.ch.os, hg.tape.trans h.ch.tape, hg.output.trans h.ch.output, Nat.le_trans h.ch.size hg.size, fun k hk hd => ?_⟩, h.cu.same hg.size fun k hk => ?_⟩
  · rw [hg.block k (by have := h.ch.size; omega) (fun e => by cases e; omega)]
    exact h.ch.block k hk hd
  · exact hg.block k (by have := h.cu.lt; omega) (fun e => by cases e; omega)
theorem own_setC {size k : Nat} {e : TypeId} {v : Value} {xs : List Value} (h : W.ownsRow base e size v k xs) {a : Addr} (hne : v.ownBlock ≠ some a.block) (u : Value) : (W.setCell a u).ownsRow base e size v k xs :=
  ((Own.of h).grown_ne (grown_setCell W a u) (fun b hb e => hne (by rw [hb]; exact e.symm))).row
theorem frozen_set (W : World) (a p : Addr) (u : Value) : (W.setCell a u).frozen? p = W.frozen? p := by simp [go_sem]
theorem cell_setO {b o o' : Nat} (W : World) (u : Value) (h : o ≠ o') : (W.setCell ⟨b, o, none⟩ u).cell? ⟨b, o', none⟩ = W.cell? ⟨b, o', none⟩ := World.cell?_setCell_other _ _ _ _ (by intro e; exact h (congrArg Addr.off e))
theorem cell_setS {b o : Nat} {x : Value} (W : World) (u : Value) (h : W.cell? ⟨b, o, none⟩ = some x) : (W.setCell ⟨b, o, none⟩ u).cell? ⟨b, o, none⟩ = some u := by simp [go_sem, h]
/-- A new size. -/
theorem WB.size (h : WB c n base g e4 e1 s4 w W sz xg ng vg pl vp) (x : Int) : WB c n base g e4 e1 s4 w (W.setCell ⟨g, 0, none⟩ (.int .i64 x)) x xg ng vg pl vp := by
  have hb := h.bb
  have hg := h.gb
  have hw := h.wb
  exact ⟨cuw_set h.cu (by show c < g; omega) (by show w.heap.size ≤ g; omega) _, cell_setS _ _ h.c0, (cell_setO _ _ (by omega)).trans h.c1, (cell_setO _ _ (by omega)).trans h.c2, fun o ho => (frozen_set _ _ _ _).trans (h.fz o ho), own_setC h.rg h.gg _, own_setC h.rp h.gp _, h.ap, h.gg, h.gp, hg, by simpa using h.gz, hb, hw⟩
theorem Own.block_lt {size k b : Nat} {e : TypeId} {v : Value} {xs : List Value} (h : W.ownsRow base e size v k xs) (hb : v.ownBlock = some b) : b < W.heap.size := (Own.of h).top b hb
/-- The second row grows. -/
theorem WB.push1 {x : Int} {v' : Value} (h : WB c n base g e4 e1 s4 w W sz xg ng vg pl vp) (ho : W2.ownsRow base e1 1 v' (pl.length + 1) (ints pl ++ [.int .i64 x])) (hg : W.grownBy W2 vp.ownBlock) (ha : v'.ownBlock = vp.ownBlock ∨ v'.ownBlock = some W.heap.size) :
    WB c n base g e4 e1 s4 w (W2.setCell ⟨g, 2, none⟩ v') sz xg ng vg (pl ++ [x]) v' := by
  have hb := h.bb
  have hgb := h.gb
  have hw := h.wb
  have hgz := h.gz
  have hcu : CuW c n w W2 := h.cu.grown hg (fun b hbk => own_block_lo h.rp hbk) hw hb
  have hgne : vp.ownBlock ≠ some g := h.gp
  have hcell : ∀ o, W2.cell? ⟨g, o, none⟩ = W.cell? ⟨g, o, none⟩ := fun o => World.cell?_of_block (hg.block g hgz (fun e => hgne e.symm))
  have hfz : ∀ o, W2.frozen? ⟨g, o, none⟩ = W.frozen? ⟨g, o, none⟩ := fun o => by
    unfold World.frozen?
    simp only
    rw [hg.block g hgz (fun e => hgne e.symm)]
  have hrg : W2.ownsRow base e4 s4 vg ng xg := ((Own.of h.rg).grown_ne hg (fun b hbb e => h.ap b hbb e)).row
  have hng : v'.ownBlock ≠ some g := by
    rcases ha with ha | ha
    · rw [ha]; exact hgne
    · rw [ha]; intro e; cases e; omega
  have hap : ∀ b, vg.ownBlock = some b → v'.ownBlock ≠ some b := fun b hbb => by
    rcases ha with ha | ha
    · rw [ha]; exact h.ap b hbb
    · rw [ha]; intro e; cases e
      have := Own.block_lt h.rg hbb
      omega
  refine ⟨cuw_set hcu (by show c < g; omega) (by show w.heap.size ≤ g; omega) _, (cell_setO _ _ (by omega)).trans ((hcell 0).trans h.c0), (cell_setO _ _ (by omega)).trans ((hcell 1).trans h.c1), cell_setS _ _ ((hcell 2).trans h.c2), fun o ho => (frozen_set _ _ _ _).trans ((hfz o).trans (h.fz o ho)), own_setC hrg h.gg _, ?_, hap, h.gg, hng, hgb, ?_, hb, hw⟩
  · rw [ints_snoc, List.length_append]
    exact own_setC ho hng _
  · have := hg.size
    simp; omega
/-- A new first row. -/
theorem WB.first {xg' : List Value} {ng' g' cp : Nat} (h : WB c n base g e4 e1 s4 w W sz xg ng vg pl vp) (hB : Below W.heap.size W W2) (ho : W2.ownsRow base e4 s4 (.slice (some ⟨g', 0, none⟩) ng' cp) ng' xg') (ha : vg.ownBlock = some g' ∨ W.heap.size ≤ g') :
    WB c n base g e4 e1 s4 w (W2.setCell ⟨g, 1, none⟩ (.slice (some ⟨g', 0, none⟩) ng' cp)) sz xg' ng' (.slice (some ⟨g', 0, none⟩) ng' cp) pl vp := by
  have h2 := h.below hB (Nat.le_refl _)
  have hb := h.bb
  have hgb := h.gb
  have hw := h.wb
  have hgz := h.gz
  have hne : g' ≠ g := by
    rcases ha with ha | ha
    · intro e; rw [e] at ha; exact h.gg ha
    · omega
  have hgg : (Value.slice (some ⟨g', 0, none⟩) ng' cp).ownBlock ≠ some g := fun e => hne (by simpa [Value.ownBlock] using e)
  refine ⟨cuw_set h2.cu (by show c < g; omega) (by show w.heap.size ≤ g; omega) _, (cell_setO _ _ (by omega)).trans h2.c0, cell_setS _ _ h2.c1, (cell_setO _ _ (by omega)).trans h2.c2, fun o ho => (frozen_set _ _ _ _).trans (h2.fz o ho), own_setC ho hgg _, own_setC h2.rp h2.gp _, fun b hbb e => ?_, hgg, h2.gp, hgb, by simpa using h2.gz, hb, hw⟩
  have hb' : g' = b := by simpa [Value.ownBlock] using hbb
  subst hb'
  rcases ha with ha | ha
  · exact h.ap _ ha e
  · have := Own.block_lt h.rp e
    omega
/-- The first row grows in place or anew. -/
theorem WB.push4 {news : List Value} {v' : Value} {m : Nat} (h : WB c n base g e4 e1 s4 w W sz xg ng vg pl vp) (ho : W2.ownsRow base e4 s4 v' (ng + m) (xg ++ news)) (hg : W.grownBy W2 vg.ownBlock) (ha : v'.ownBlock = vg.ownBlock ∨ v'.ownBlock = some W.heap.size) :
    WB c n base g e4 e1 s4 w (W2.setCell ⟨g, 1, none⟩ v') sz (xg ++ news) (ng + m) v' pl vp := by
  have hb := h.bb
  have hgb := h.gb
  have hw := h.wb
  have hgz := h.gz
  have hcu : CuW c n w W2 := h.cu.grown hg (fun b hbk => own_block_lo h.rg hbk) hw hb
  have hgne : vg.ownBlock ≠ some g := h.gg
  have hcell : ∀ o, W2.cell? ⟨g, o, none⟩ = W.cell? ⟨g, o, none⟩ := fun o => World.cell?_of_block (hg.block g hgz (fun e => hgne e.symm))
  have hfz : ∀ o, W2.frozen? ⟨g, o, none⟩ = W.frozen? ⟨g, o, none⟩ := fun o => by
    unfold World.frozen?
    simp only
    rw [hg.block g hgz (fun e => hgne e.symm)]
  have hrp : W2.ownsRow base e1 1 vp pl.length (ints pl) := ((Own.of h.rp).grown_ne hg (fun b hbb e => h.ap b e hbb)).row
  have hng : v'.ownBlock ≠ some g := by
    rcases ha with ha | ha
    · rw [ha]; exact hgne
    · rw [ha]; intro e; cases e; omega
  have hap : ∀ b, v'.ownBlock = some b → vp.ownBlock ≠ some b := fun b hbb => by
    rcases ha with ha | ha
    · rw [ha] at hbb; exact h.ap b hbb
    · rw [ha] at hbb; cases hbb
      intro e
      have := Own.block_lt h.rp e
      omega
  refine ⟨cuw_set hcu (by show c < g; omega) (by show w.heap.size ≤ g; omega) _, (cell_setO _ _ (by omega)).trans ((hcell 0).trans h.c0), cell_setS _ _ ((hcell 1).trans h.c1), (cell_setO _ _ (by omega)).trans ((hcell 2).trans h.c2), fun o ho => (frozen_set _ _ _ _).trans ((hfz o).trans (h.fz o ho)), own_setC ho hng _, own_setC hrp h.gp _, hap, hng, h.gp, hgb, ?_, hb, hw⟩
  have := hg.size
  simp; omega
/-- What a draw of works gives. -/
def WorksP (c n : Nat) (w : World) (e : Ending) (w' : World) : Prop := ∃ v, ∃ m : Wk, e = .returned v ∧ (∀ w'', Chg 0 w.heap.size w' w'' → WkAt w'' v m) ∧ m.gates.length ≤ 40 ∧ m.pulls.length ≤ 40 ∧ (0 ≤ m.size ∧ m.size ≤ 13) ∧ CuW c n w w'
theorem WB.works {gl : List D4} (h : WB c n base g e4 e1 4 w W sz (c4 gl) gl.length vg pl vp) (h1 : gl.length ≤ 40) (h2 : pl.length ≤ 40) : ∃ ag cg ap cp, vg = .slice ag gl.length cg ∧ vp = .slice ap pl.length cp ∧ WkAt W (.agg #[.int .i64 sz, .slice ag gl.length cg, .slice ap pl.length cp]) ⟨sz, gl, pl⟩ := by
  obtain ⟨ag, cg, rfl, -, hd⟩ := (Own.of h.rg).d4
  obtain ⟨ap, cp, rfl, -, hi⟩ := (Own.of h.rp).ic
  exact ⟨ag, cg, ap, cp, rfl, rfl, ⟨⟨ag, cg, ap, cp, rfl, hd, hi⟩, by dsimp only; omega, by dsimp only; omega⟩⟩
/-- The stores of a struct into an older block. -/
theorem WB.out {r o : Nat} (h : WB c n base g e4 e1 s4 w W sz xg ng vg pl vp) (hr : r < base) (hc : c < r) (hw : w.heap.size ≤ r) (u : Value) : CuW c n w (W.setCell ⟨r, o, none⟩ u) ∧ (W.setCell ⟨r, o, none⟩ u).ownsRow base e4 s4 vg ng xg ∧ (W.setCell ⟨r, o, none⟩ u).ownsRow base e1 1 vp pl.length (ints pl) := by
  refine ⟨cuw_set h.cu hc hw _, own_setC h.rg (fun e => ?_) _, own_setC h.rp (fun e => ?_) _⟩
  · have := own_block_lo h.rg e
    dsimp only at this; omega
  · have := own_block_lo h.rp e
    dsimp only at this; omega
theorem WB.start {T : TypeId} (h : CuW c n w W) (hb : c < w.heap.size) : WB c n w.heap.size (W.heap.size + 1 + 1) e4 e1 s4 w (((W.alloc (.cells #[] e4)).alloc (.cells #[] e1)).alloc (.cells #[.int .i64 sz, .slice (some ⟨W.heap.size, 0, none⟩) 0 0, .slice (some ⟨W.heap.size + 1, 0, none⟩) 0 0] T)) sz [] 0 (.slice (some ⟨W.heap.size, 0, none⟩) 0 0) [] (.slice (some ⟨W.heap.size + 1, 0, none⟩) 0 0) := by
  have hs := h.ch.size
  refine ⟨((h.alloc _).alloc _).alloc _, by simp [go_sem], by simp [go_sem], by simp [go_sem], fun o ho => by simp [go_sem], ?_, ?_, fun b hb1 hb2 => ?_, fun e => ?_, fun e => ?_, by omega, by simp, hb, Nat.le_refl _⟩
  · refine ⟨by simp, .inr ⟨W.heap.size, 0, #[], rfl, hs, ?_, Nat.le_refl _, Nat.zero_le _, by simp, by simp⟩⟩
    rw [heap_alloc_old _ _ (by simp; omega), heap_alloc_old _ _ (by simp)]
    exact heap_alloc_last W _
  · refine ⟨by simp, .inr ⟨W.heap.size + 1, 0, #[], rfl, by omega, ?_, Nat.le_refl _, Nat.zero_le _, by simp, rfl⟩⟩
    rw [heap_alloc_old _ _ (by simp)]
    have := heap_alloc_last (W.alloc (.cells #[] e4)) (.cells #[] e1)
    simpa using this
  · have h1 : W.heap.size = b := by simpa [Value.ownBlock] using hb1
    have h2 : W.heap.size + 1 = b := by simpa [Value.ownBlock] using hb2
    omega
  · simp [Value.ownBlock] at e
    omega
  · simp [Value.ownBlock] at e
theorem own_someP {k b cap size : Nat} {e : TypeId} {xs : List Value} (h : W.ownsRow base e size (.slice (some ⟨b, 0, none⟩) k cap) k xs) : b < W.heap.size ∧ k ≤ cap ∧ cap ≤ maxLen ∧ base ≤ b ∧ ∀ j u, xs[j]? = some u → W.cell? ((⟨b, 0, none⟩ : Addr).add j) = some u := by
  have hl := h.1
  refine ⟨(Own.of h).top b rfl, ?_, ?_, own_block_lo h rfl, fun j u hu => ?_⟩
  · rcases h.2 with ⟨hv, _⟩ | ⟨g', cap', cur, hv, hlo, hh, hn, hm, _⟩
    · cases hv
    · cases hv; exact hn
  · rcases h.2 with ⟨hv, _⟩ | ⟨g', cap', cur, hv, hlo, hh, hn, hm, _⟩
    · cases hv
    · cases hv; exact hm
  · have hj : j < xs.length := by
      rcases Nat.lt_or_ge j xs.length with h | h
      · exact h
      · rw [List.getElem?_eq_none h] at hu; cases hu
    rw [add_at rfl, Nat.zero_add, h.cellAt j (by omega), hu]
theorem WB.far2 (h : WB c n base g e4 e1 s4 w W sz xg ng vg pl vp) (hg : W.grownBy W2 vp.ownBlock) : W2.cell? ⟨g, 2, none⟩ = some vp ∧ W2.frozen? ⟨g, 2, none⟩ = false ∧ g < W2.heap.size := by
  have hne : ¬ some g = vp.ownBlock := fun e => h.gp e.symm
  refine ⟨(World.cell?_of_block (hg.block g h.gz hne)).trans h.c2, ?_, Nat.lt_of_lt_of_le h.gz hg.size⟩
  have := h.fz 2 (by omega)
  unfold World.frozen? at *
  simp only at *
  rw [hg.block g h.gz hne]; exact this
theorem WB.far1 (h : WB c n base g e4 e1 s4 w W sz xg ng vg pl vp) (hg : W.grownBy W2 vg.ownBlock) : W2.cell? ⟨g, 1, none⟩ = some vg ∧ W2.frozen? ⟨g, 1, none⟩ = false ∧ g < W2.heap.size := by
  have hne : ¬ some g = vg.ownBlock := fun e => h.gg e.symm
  refine ⟨(World.cell?_of_block (hg.block g h.gz hne)).trans h.c1, ?_, Nat.lt_of_lt_of_le h.gz hg.size⟩
  have := h.fz 1 (by omega)
  unfold World.frozen? at *
  simp only at *
  rw [hg.block g h.gz hne]; exact this
theorem res_facts {wr0 : World} {a b d : Value} {T : TypeId} (hw : wr0 = w.alloc (.cells #[a, b, d] T)) (h : Chg c (c + 1) wr0 W) (hc : c < w.heap.size) : W.cell? ⟨w.heap.size, 0, none⟩ = some a ∧ W.cell? ⟨w.heap.size, 1, none⟩ = some b ∧ W.cell? ⟨w.heap.size, 2, none⟩ = some d ∧ W.frozen? ⟨w.heap.size, 0, none⟩ = false ∧ W.frozen? ⟨w.heap.size, 1, none⟩ = false ∧ W.frozen? ⟨w.heap.size, 2, none⟩ = false ∧ w.heap.size < W.heap.size := by
  have hz : w.heap.size < wr0.heap.size := by rw [hw]; simp
  have hne : w.heap.size < c ∨ c + 1 ≤ w.heap.size := .inr (by omega)
  refine ⟨?_, ?_, ?_, ?_, ?_, ?_, Nat.lt_of_lt_of_le hz h.size⟩
  · rw [h.cell (p := ⟨w.heap.size, 0, none⟩) hz hne, hw]; simp [go_sem]
  · rw [h.cell (p := ⟨w.heap.size, 1, none⟩) hz hne, hw]; simp [go_sem]
  · rw [h.cell (p := ⟨w.heap.size, 2, none⟩) hz hne, hw]; simp [go_sem]
  · rw [chg_frozen h hz hne, hw]; simp [go_sem]
  · rw [chg_frozen h hz hne, hw]; simp [go_sem]
  · rw [chg_frozen h hz hne, hw]; simp [go_sem]
theorem works_end {wr0 : World} {r bg cg bp cp n0 : Nat} {gl : List D4} (h : WB c n base g e4 e1 4 wr0 W sz (c4 gl) gl.length (.slice (some ⟨bg, 0, none⟩) gl.length cg) pl (.slice (some ⟨bp, 0, none⟩) pl.length cp)) (h0 : CuW c n0 w wr0) (hr : r < base) (hc : c < r) (hw : w.heap.size ≤ r) (h1 : gl.length ≤ 40) (h2 : pl.length ≤ 40) (x0 x1 x2 : Value) :
    (∀ w'', Chg 0 w.heap.size (((W.setCell ⟨r, 0, none⟩ x0).setCell ⟨r, 1, none⟩ x1).setCell ⟨r, 2, none⟩ x2) w'' → WkAt w'' (.agg #[.int .i64 sz, .slice (some ⟨bg, 0, none⟩) gl.length cg, .slice (some ⟨bp, 0, none⟩) pl.length cp]) ⟨sz, gl, pl⟩) ∧ CuW c n w (((W.setCell ⟨r, 0, none⟩ x0).setCell ⟨r, 1, none⟩ x1).setCell ⟨r, 2, none⟩ x2) := by
  have hbw := h.bb
  have hwb := h.wb
  have hne1 : (Value.slice (some ⟨bg, 0, none⟩) gl.length cg).ownBlock ≠ some r := fun e => by have := own_block_lo h.rg e; omega
  have hne2 : (Value.slice (some ⟨bp, 0, none⟩) pl.length cp).ownBlock ≠ some r := fun e => by have := own_block_lo h.rp e; omega
  have r1 := own_setC (own_setC (own_setC h.rg (a := ⟨r, 0, none⟩) hne1 x0) (a := ⟨r, 1, none⟩) hne1 x1) (a := ⟨r, 2, none⟩) hne1 x2
  have r2 := own_setC (own_setC (own_setC h.rp (a := ⟨r, 0, none⟩) hne2 x0) (a := ⟨r, 1, none⟩) hne2 x1) (a := ⟨r, 2, none⟩) hne2 x2
  refine ⟨fun w'' hch => ?_, cuw_set (cuw_set (cuw_set (h0.trans h.cu) (a := ⟨r, 0, none⟩) hc hw x0) (a := ⟨r, 1, none⟩) hc hw x1) (a := ⟨r, 2, none⟩) hc hw x2⟩
  have q1 := ((Own.of r1).chg hch (.inr (by omega))).row
  have q2 := ((Own.of r2).chg hch (.inr (by omega))).row
  obtain ⟨ag, cg', e1, -, hd⟩ := (Own.of q1).d4
  obtain ⟨ap, cp', e2, -, hi⟩ := (Own.of q2).ic
  cases e1
  cases e2
  exact ⟨⟨_, _, _, _, rfl, hd, hi⟩, by dsimp only; omega, by dsimp only; omega⟩
/-- All are numbers. -/
def AI (ys : List Value) : Prop := ∀ v ∈ ys, ∃ x : Int, v = .int .i64 x
theorem AI.set {ys : List Value} (h : AI ys) (j : Nat) (x : Int) : AI (ys.set j (.int .i64 x)) := by
  intro v hv
  rcases List.mem_or_eq_of_mem_set hv with hv | hv
  · exact h v hv
  · exact ⟨x, hv⟩
theorem ai_c4 (gl : List D4) : AI (c4 gl) := by
  intro v hv
  unfold c4 at hv
  rw [List.mem_flatMap] at hv
  obtain ⟨d, -, hd⟩ := hv
  simp only [List.mem_cons, List.not_mem_nil, or_false] at hd
  rcases hd with h | h | h | h <;> exact ⟨_, h⟩
theorem ai_c3 (gl : List D3) : AI (c3 gl) := by
  intro v hv
  unfold c3 at hv
  rw [List.mem_flatMap] at hv
  obtain ⟨d, -, hd⟩ := hv
  simp only [List.mem_cons, List.not_mem_nil, or_false] at hd
  rcases hd with h | h | h <;> exact ⟨_, h⟩
theorem c4_of : ∀ (k : Nat) (ys : List Value), ys.length = k * 4 → AI ys → ∃ gl : List D4, gl.length = k ∧ c4 gl = ys
  | 0, ys, h, _ => ⟨[], rfl, (List.eq_nil_of_length_eq_zero (by omega)).symm⟩
  | k + 1, ys, h, ha => by
    rcases ys with _ | ⟨a, _ | ⟨b, _ | ⟨c, _ | ⟨d, ys⟩⟩⟩⟩
    · simp at h
    · simp at h; omega
    · simp at h; omega
    · simp at h; omega
    · obtain ⟨a', rfl⟩ := ha a (by simp)
      obtain ⟨b', rfl⟩ := ha b (by simp)
      obtain ⟨c', rfl⟩ := ha c (by simp)
      obtain ⟨d', rfl⟩ := ha d (by simp)
      obtain ⟨gl, h1, h2⟩ := c4_of k ys (by simp at h; omega) (fun v hv => ha v (by simp [hv]))
      exact ⟨(a', b', c', d') :: gl, by simp [h1], by rw [← h2]; rfl⟩
theorem c3_of : ∀ (k : Nat) (ys : List Value), ys.length = k * 3 → AI ys → ∃ gl : List D3, gl.length = k ∧ c3 gl = ys
  | 0, ys, h, _ => ⟨[], rfl, (List.eq_nil_of_length_eq_zero (by omega)).symm⟩
  | k + 1, ys, h, ha => by
    rcases ys with _ | ⟨a, _ | ⟨b, _ | ⟨c, ys⟩⟩⟩
    · simp at h
    · simp at h; omega
    · simp at h; omega
    · obtain ⟨a', rfl⟩ := ha a (by simp)
      obtain ⟨b', rfl⟩ := ha b (by simp)
      obtain ⟨c', rfl⟩ := ha c (by simp)
      obtain ⟨gl, h1, h2⟩ := c3_of k ys (by simp at h; omega) (fun v hv => ha v (by simp [hv]))
      exact ⟨(a', b', c') :: gl, by simp [h1], by rw [← h2]; rfl⟩
theorem set_ne {b b' o o' : Nat} (W : World) (u : Value) (h : b ≠ b') : (W.setCell ⟨b, o, none⟩ u).cell? ⟨b', o', none⟩ = W.cell? ⟨b', o', none⟩ := World.cell?_setCell_other _ _ _ _ (by intro e; exact h (congrArg Addr.block e))
/-- A number is stored into the first row. -/
theorem WB.setg {bg cg j : Nat} {x : Int} (h : WB c n base g e4 e1 s4 w W sz xg ng (.slice (some ⟨bg, 0, none⟩) ng cg) pl vp) : WB c n base g e4 e1 s4 w (W.setCell ⟨bg, j, none⟩ (.int .i64 x)) sz (xg.set j (.int .i64 x)) ng (.slice (some ⟨bg, 0, none⟩) ng cg) pl vp := by
  have hb := h.bb
  have hw := h.wb
  have hlo : base ≤ bg := own_block_lo h.rg rfl
  have hne : bg ≠ g := fun e => h.gg (by rw [e]; rfl)
  have hnp : vp.ownBlock ≠ some bg := h.ap bg rfl
  exact ⟨cuw_set h.cu (by show c < bg; omega) (by show w.heap.size ≤ bg; omega) _, (set_ne _ _ hne).trans h.c0, (set_ne _ _ hne).trans h.c1, (set_ne _ _ hne).trans h.c2, fun o ho => (frozen_set _ _ _ _).trans (h.fz o ho), (h.rg.stored j _).1, own_setC h.rp hnp _, h.ap, h.gg, h.gp, h.gb, by simpa using h.gz, hb, hw⟩
/-- A number is stored into the second row. -/
theorem WB.setp {bp cp j : Nat} {x : Int} (h : WB c n base g e4 e1 s4 w W sz xg ng vg pl (.slice (some ⟨bp, 0, none⟩) pl.length cp)) : WB c n base g e4 e1 s4 w (W.setCell ⟨bp, j, none⟩ (.int .i64 x)) sz xg ng vg (pl.set j x) (.slice (some ⟨bp, 0, none⟩) (pl.set j x).length cp) := by
  have hb := h.bb
  have hw := h.wb
  have hlo : base ≤ bp := own_block_lo h.rp rfl
  have hne : bp ≠ g := fun e => h.gp (by rw [e]; rfl)
  have hnp : vg.ownBlock ≠ some bp := fun e => h.ap bp e rfl
  have hr := (own_store1 h.rp j x).1
  rw [List.length_set]
  exact ⟨cuw_set h.cu (by show c < bp; omega) (by show w.heap.size ≤ bp; omega) _, (set_ne _ _ hne).trans h.c0, (set_ne _ _ hne).trans h.c1, (set_ne _ _ hne).trans h.c2, fun o ho => (frozen_set _ _ _ _).trans (h.fz o ho), own_setC h.rg hnp _, by rw [List.length_set]; exact hr, fun b hb1 hb2 => h.ap b hb1 hb2, h.gg, h.gp, h.gb, by simpa using h.gz, hb, hw⟩
/-- A literal that lies in a block reads so behind a draw. -/
theorem ic_at {g' k : Nat} {W' : World} {e : TypeId} {cs : Array Value} {l : List Int} (hcs : cs.toList = ints l) (hk : k = l.length) (hm : k ≤ 100) (hg : W.heap[g']? = some (.cells cs e)) (hc : c < g') (h : Chg c (c + 1) W W') : IC W' (some ⟨g', 0, none⟩) l := by
  subst hk
  have hz : g' < W.heap.size := by
    rcases Nat.lt_or_ge g' W.heap.size with h | h
    · exact h
    · rw [Array.getElem?_eq_none h] at hg; cases hg
  have hl : cs.size = l.length := by have := congrArg List.length hcs; simpa using this
  have ho : W.ownsRow g' e 1 (.slice (some ⟨g', 0, none⟩) l.length l.length) l.length (ints l) := ⟨by simp, .inr ⟨g', l.length, cs, rfl, Nat.le_refl _, hg, Nat.le_refl _, by unfold maxLen; omega, by omega, by rw [hcs, Nat.mul_one, List.take_of_length_le (by simp)]⟩⟩
  exact ic_of (Own.of (own_chgC ho h hc))
/-- What a region reads of works in work. -/
theorem WB.sg {gl : List D4} {bg cg kk : Nat} (h : WB c n base g e4 e1 4 w W sz (c4 gl) gl.length (.slice (some ⟨bg, 0, none⟩) gl.length cg) pl vp) (hk : kk < gl.length) :
    W.cell? ⟨g, 1, none⟩ = some (.slice (some ⟨bg, 0, none⟩) gl.length cg) ∧ W.cell? ⟨bg, kk * 4, none⟩ = some (.int .i64 (gl[kk]!).1) ∧ W.cell? ⟨bg, kk * 4 + 1, none⟩ = some (.int .i64 (gl[kk]!).2.1) := by
  obtain ⟨h0, h1, -, -⟩ := get_c4 gl kk hk
  exact ⟨h.c1, by rw [h.rg.cellAt _ (by omega), h0], by rw [h.rg.cellAt _ (by omega), h1]⟩
theorem WB.fg {gl : List D4} {bg cg kk : Nat} (h : WB c n base g e4 e1 4 w W sz (c4 gl) gl.length (.slice (some ⟨bg, 0, none⟩) gl.length cg) pl vp) (hk : kk < gl.length) :
    (∃ u, W.cell? ⟨bg, kk * 4 + 2, none⟩ = some u) ∧ (∃ u, W.cell? ⟨bg, kk * 4 + 3, none⟩ = some u) ∧ W.frozen? ⟨bg, kk * 4, none⟩ = false ∧ W.frozen? ⟨bg, kk * 4 + 1, none⟩ = false ∧ W.frozen? ⟨bg, kk * 4 + 2, none⟩ = false ∧ W.frozen? ⟨bg, kk * 4 + 3, none⟩ = false ∧ bg < W.heap.size ∧ bg ≠ g := by
  have hl := h.rg.1
  exact ⟨(own_cell h.rg (kk * 4 + 2) (by omega)).1, (own_cell h.rg (kk * 4 + 3) (by omega)).1, (own_cell h.rg (kk * 4) (by omega)).2, (own_cell h.rg (kk * 4 + 1) (by omega)).2, (own_cell h.rg (kk * 4 + 2) (by omega)).2, (own_cell h.rg (kk * 4 + 3) (by omega)).2, Own.block_lt h.rg rfl, fun e => h.gg (by rw [e]; rfl)⟩
theorem WB.set4 {gl : List D4} {bg cg kk : Nat} (h : WB c n base g e4 e1 4 w W sz (c4 gl) gl.length (.slice (some ⟨bg, 0, none⟩) gl.length cg) pl vp) (a b d e : Int) :
    ∃ gl' : List D4, gl'.length = gl.length ∧ WB c n base g e4 e1 4 w ((((W.setCell ⟨bg, kk * 4, none⟩ (.int .i64 a)).setCell ⟨bg, kk * 4 + 1, none⟩ (.int .i64 b)).setCell ⟨bg, kk * 4 + 2, none⟩ (.int .i64 d)).setCell ⟨bg, kk * 4 + 3, none⟩ (.int .i64 e)) sz (c4 gl') gl'.length (.slice (some ⟨bg, 0, none⟩) gl'.length cg) pl vp := by
  have h4 := (((h.setg (j := kk * 4) (x := a)).setg (j := kk * 4 + 1) (x := b)).setg (j := kk * 4 + 2) (x := d)).setg (j := kk * 4 + 3) (x := e)
  obtain ⟨gl', h1, h2⟩ := c4_of gl.length _ (by have := h4.rg.1; exact this) (((((ai_c4 gl).set (kk * 4) a).set (kk * 4 + 1) b).set (kk * 4 + 2) d).set (kk * 4 + 3) e)
  refine ⟨gl', h1, ?_⟩
  rw [h2, h1]
  exact h4
theorem ic_d1 {k : Nat} {W' : World} {e : TypeId} {cs : Array Value} {l : List Int} (hcs : cs.toList = ints l) (hk : k = l.length) (hm : k ≤ 100) (hc : c < W.heap.size) (h : Chg c (c + 1) (W.alloc (.cells cs e)).drew W') : IC W' (some ⟨W.heap.size, 0, none⟩) l :=
  ic_at (W := (W.alloc (.cells cs e)).drew) hcs hk hm (heap_alloc_last W _) hc h
theorem ic_d2a {k : Nat} {W' : World} {e : TypeId} {cs : Array Value} {o : Obj} {l : List Int} (hcs : cs.toList = ints l) (hk : k = l.length) (hm : k ≤ 100) (hc : c < W.heap.size) (h : Chg c (c + 1) ((W.alloc (.cells cs e)).alloc o).drew W') : IC W' (some ⟨W.heap.size, 0, none⟩) l :=
  ic_at (W := ((W.alloc (.cells cs e)).alloc o).drew) hcs hk hm ((heap_alloc_old _ _ (by simp)).trans (heap_alloc_last W _)) hc h
theorem ic_d2b {k : Nat} {W' : World} {e : TypeId} {cs : Array Value} {o : Obj} {l : List Int} (hcs : cs.toList = ints l) (hk : k = l.length) (hm : k ≤ 100) (hc : c < W.heap.size) (h : Chg c (c + 1) ((W.alloc o).alloc (.cells cs e)).drew W') : IC W' (some ⟨W.heap.size + 1, 0, none⟩) l :=
  ic_at (W := ((W.alloc o).alloc (.cells cs e)).drew) hcs hk hm (by show ((W.alloc o).alloc (.cells cs e)).heap[W.heap.size + 1]? = _; have := heap_alloc_last (W.alloc o) (.cells cs e); simpa using this) (by omega) h
theorem WB.sgy {gl : List D4} {bg cg kk : Nat} {y0 y1 : Int} (h : WB c n base g e4 e1 4 w W sz (c4 gl) gl.length (.slice (some ⟨bg, 0, none⟩) gl.length cg) pl vp) (hk : kk < gl.length) (hy : (gl[kk]!).1 = y0 ∧ (gl[kk]!).2.1 = y1) :
    W.cell? ⟨g, 1, none⟩ = some (.slice (some ⟨bg, 0, none⟩) gl.length cg) ∧ W.cell? ⟨bg, kk * 4, none⟩ = some (.int .i64 y0) ∧ W.cell? ⟨bg, kk * 4 + 1, none⟩ = some (.int .i64 y1) := by
  rw [← hy.1, ← hy.2]; exact h.sg hk
theorem WB.sgs {gl : List D4} {bg cg kk : Nat} {y0 y1 x y : Int} (h : WB c n base g e4 e1 4 w W sz (c4 gl) gl.length (.slice (some ⟨bg, 0, none⟩) gl.length cg) pl vp) (hk : kk < gl.length) (hy : (gl[kk]!).1 = y0 ∧ (gl[kk]!).2.1 = y1) :
    ((((W.setCell ⟨bg, kk * 4, none⟩ (.int .i64 y0)).setCell ⟨bg, kk * 4 + 1, none⟩ (.int .i64 y1)).setCell ⟨bg, kk * 4 + 2, none⟩ (.int .i64 x)).setCell ⟨bg, kk * 4 + 3, none⟩ (.int .i64 y)).cell? ⟨g, 1, none⟩ = some (.slice (some ⟨bg, 0, none⟩) gl.length cg) ∧
    ((((W.setCell ⟨bg, kk * 4, none⟩ (.int .i64 y0)).setCell ⟨bg, kk * 4 + 1, none⟩ (.int .i64 y1)).setCell ⟨bg, kk * 4 + 2, none⟩ (.int .i64 x)).setCell ⟨bg, kk * 4 + 3, none⟩ (.int .i64 y)).cell? ⟨bg, kk * 4, none⟩ = some (.int .i64 y0) ∧
    ((((W.setCell ⟨bg, kk * 4, none⟩ (.int .i64 y0)).setCell ⟨bg, kk * 4 + 1, none⟩ (.int .i64 y1)).setCell ⟨bg, kk * 4 + 2, none⟩ (.int .i64 x)).setCell ⟨bg, kk * 4 + 3, none⟩ (.int .i64 y)).cell? ⟨bg, kk * 4 + 1, none⟩ = some (.int .i64 y1) := by
  obtain ⟨s1, s2, s3⟩ := h.sgy hk hy
  have hne : bg ≠ g := fun e => h.gg (by rw [e]; rfl)
  refine ⟨?_, ?_, ?_⟩
  · rw [set_ne _ _ hne, set_ne _ _ hne, set_ne _ _ hne, set_ne _ _ hne]; exact s1
  · rw [cell_setO _ _ (by omega), cell_setO _ _ (by omega), cell_setO _ _ (by omega)]
    exact cell_setS _ _ s2
  · rw [cell_setO _ _ (by omega), cell_setO _ _ (by omega)]
    exact cell_setS _ _ ((cell_setO _ _ (by omega)).trans s3)
theorem WB.fp {bp cp j : Nat} (h : WB c n base g e4 e1 s4 w W sz xg ng vg pl (.slice (some ⟨bp, 0, none⟩) pl.length cp)) (hj : j < pl.length) : (∃ u, W.cell? ⟨bp, j, none⟩ = some u) ∧ W.frozen? ⟨bp, j, none⟩ = false ∧ bp < W.heap.size ∧ bp ≠ g := by
  have := own_cell h.rp j (by omega)
  exact ⟨this.1, this.2, Own.block_lt h.rp rfl, fun e => h.gp (by rw [e]; rfl)⟩
theorem WB.sps {bp cp j : Nat} {x : Int} (h : WB c n base g e4 e1 s4 w W sz xg ng vg pl (.slice (some ⟨bp, 0, none⟩) pl.length cp)) : (W.setCell ⟨bp, j, none⟩ (.int .i64 x)).cell? ⟨g, 2, none⟩ = some (.slice (some ⟨bp, 0, none⟩) pl.length cp) :=
  (set_ne _ _ (fun e => h.gp (by rw [e]; rfl))).trans h.c2
theorem WB.four {gl : List D4} {bg cg : Nat} (h : WB c n base g e4 e1 4 w W sz (c4 gl) gl.length (.slice (some ⟨bg, 0, none⟩) gl.length cg) pl vp) (hk : 0 < gl.length) :
    ∃ y0 y1 y2 y3 : Int, W.cell? ⟨bg, 0, none⟩ = some (.int .i64 y0) ∧ W.cell? ⟨bg, 1, none⟩ = some (.int .i64 y1) ∧ W.cell? ⟨bg, 2, none⟩ = some (.int .i64 y2) ∧ W.cell? ⟨bg, 3, none⟩ = some (.int .i64 y3) := by
  obtain ⟨h0, h1, h2, h3⟩ := get_c4 gl 0 hk
  simp only [Nat.zero_mul, Nat.zero_add] at h0 h1 h2 h3
  exact ⟨_, _, _, _, by rw [h.rg.cellAt _ (by omega), h0], by rw [h.rg.cellAt _ (by omega), h1], by rw [h.rg.cellAt _ (by omega), h2], by rw [h.rg.cellAt _ (by omega), h3]⟩
end Go.KD

namespace Go
open Go.RowKit Go.KD
theorem step_append_any {P : Program} (w : World) {ops : Array Oper} {o : Oper} {a : Act} {K : Act → World → Prop} {Q : Exit → Act → World → Prop} {E : Prop} (hgd : o.guard = none) (s x : Operand) (t : TypeId)
    (ho : o.op = .call { callee := .builtin .append, args := #[s, x], argTypes := #[t, t] })
    (base : Nat) (e : TypeId) (i : TypeInfo) (z : Value) (size bytes : Nat) (ht : P.underlying t = some (.slice e)) (hi : P.info? e = some i) (hz : i.zero = some z)
    (hsize : i.size = size) (hby : i.bytes = bytes) (hzs : z.cells.size = size) (hsz : 0 < size)
    (v : Value) (n : Nat) (xs : List Value) (hs : a.eval s = v) (hown : w.ownsRow base e size v n xs)
    (ad : Addr) (m c : Nat) (news : List Value) (hx : a.eval x = .slice (some ad) m c) (hl : news.length = m * size) (hnews : ∀ j u, news[j]? = some u → w.cell? (ad.add j) = some u) (h1 : ∀ u ∈ news, u.oneCell' = true)
    (h63 : n + m ≤ maxLen) (hbytes : (n + m) * bytes ≤ 140737488355328) (hbase : base ≤ w.heap.size)
    (h : ∀ v' w', w'.ownsRow base e size v' (n + m) (xs ++ news) → w.grownBy w' v.ownBlock → K (a.put o.dst v') w') :
    if Region.wanted o (yielded ops a.tmps) = true then Oper.wp P o a w K Q else E := by
  have hw : Region.wanted o (yielded ops a.tmps) = true := by simp [Region.wanted, hgd]
  rw [if_pos hw]
  obtain ⟨v', w', hr, h2, h3, _⟩ := run_append_own_at (P := P) w base t o.type e i z size bytes ht hi hz hsize hby hzs hsz v n xs hown ad m c news hl hnews h1 h63 hbytes hbase
  unfold Oper.wp execOp
  simp only [ho, resolve, invoke, builtin, Sem.run_bind, Sem.run_pure, Result.andThen_ok, List.map_toArray, List.map_cons, List.map_nil, hs, hx, hr]
  exact h v' w' h2 h3
theorem heap1 (w : World) (o : Obj) : (w.alloc o).drew.heap[w.heap.size]? = some o := heap_alloc_new w o
theorem heap2 (w : World) (o p : Obj) : ((w.alloc o).alloc p).drew.heap[w.heap.size]? = some o := by
  show (Array.push (Array.push w.heap o) p)[w.heap.size]? = some o
  rw [Array.getElem?_push_lt (by simp)]
  simp
theorem heap3 (w : World) (o p : Obj) : ((w.alloc p).alloc o).drew.heap[w.heap.size + 1]? = some o := heap_alloc2_new w p o
theorem own_empty {W : World} {N base : Nat} {e : TypeId} (h : W.heap[N]? = some (.cells #[] e)) (hb : base ≤ N) : W.ownsRow base e 1 (.slice (some ⟨N, 0, none⟩) 0 0) 0 [] :=
  ⟨rfl, .inr ⟨N, 0, #[], rfl, hb, h, Nat.le_refl _, Nat.zero_le _, rfl, rfl⟩⟩
theorem step_append_below {P : Program} (w : World) {ops : Array Oper} {o : Oper} {a : Act} {K : Act → World → Prop} {Q : Exit → Act → World → Prop} {E : Prop} (w0 : World) (base : Nat) (hB : Below base w0 w) (hgd : o.guard = none) (s x : Operand) (t : TypeId)
    (ho : o.op = .call { callee := .builtin .append, args := #[s, x], argTypes := #[t, t] })
    (e : TypeId) (i : TypeInfo) (z : Value) (size bytes : Nat) (ht : P.underlying t = some (.slice e)) (hi : P.info? e = some i) (hz : i.zero = some z)
    (hsize : i.size = size) (hby : i.bytes = bytes) (hzs : z.cells.size = size) (hsz : 0 < size)
    (v : Value) (n : Nat) (xs : List Value) (hs : a.eval s = v) (hown : w.ownsRow base e size v n xs)
    (ad : Addr) (m c : Nat) (news : List Value) (hx : a.eval x = .slice (some ad) m c) (hl : news.length = m * size) (hnews : ∀ j u, news[j]? = some u → w.cell? (ad.add j) = some u) (h1 : ∀ u ∈ news, u.oneCell' = true)
    (h63 : n + m ≤ maxLen) (hbytes : (n + m) * bytes ≤ 140737488355328) (hbase : base ≤ w.heap.size)
    (h : ∀ v' w', w'.ownsRow base e size v' (n + m) (xs ++ news) → w.grownBy w' v.ownBlock → Below base w0 w' → K (a.put o.dst v') w') :
    if Region.wanted o (yielded ops a.tmps) = true then Oper.wp P o a w K Q else E :=
  step_append_any w hgd s x t ho base e i z size bytes ht hi hz hsize hby hzs hsz v n xs hs hown ad m c news hx hl hnews h1 h63 hbytes hbase
    fun v' w' h2 h3 => h v' w' h2 h3 (hB.grown h3 hbase (fun g hg => own_block_lo hown hg))
end Go
namespace Go.KD
open Go.RowKit
theorem news_take {W : World} {b off : Nat} {l : List Int} (h : IC W (some ⟨b, off, none⟩) l) (k : Nat) : ∀ j u, (ints (l.take k))[j]? = some u → W.cell? ((⟨b, off, none⟩ : Addr).add j) = some u := by
  intro j u hu
  rw [ints, List.getElem?_map, List.getElem?_take] at hu
  split at hu
  · rcases Nat.lt_or_ge j l.length with hj | hj
    · obtain ⟨b', off', hb, -, hc⟩ := h j hj
      cases hb
      rw [add_at rfl, hc, ← hu, List.getElem?_eq_getElem hj, getElem!_pos l j hj]
      rfl
    · rw [List.getElem?_eq_none hj] at hu; cases hu
  · cases hu
theorem news_drop {W : World} {b off : Nat} {l : List Int} (h : IC W (some ⟨b, off, none⟩) l) (k : Nat) : ∀ j u, (ints (l.drop k))[j]? = some u → W.cell? ((⟨b, off + k, none⟩ : Addr).add j) = some u := by
  intro j u hu
  rw [ints, List.getElem?_map, List.getElem?_drop] at hu
  rcases Nat.lt_or_ge (k + j) l.length with hj | hj
  · obtain ⟨b', off', hb, -, hc⟩ := h (k + j) hj
    cases hb
    rw [add_at rfl, Nat.add_assoc, hc, ← hu, List.getElem?_eq_getElem hj, getElem!_pos l (k + j) hj]
    rfl
  · rw [List.getElem?_eq_none hj] at hu; cases hu
theorem ints_one {l : List Int} : ∀ u ∈ ints l, u.oneCell' = true := by
  intro u hu
  simp only [ints, List.mem_map] at hu
  obtain ⟨x, _, rfl⟩ := hu
  rfl
theorem put_end {w3 : World} {base : Nat} {e : TypeId} {v3 : Value} {l : List Int} {x : Int} {k : Nat} (hk : k ≤ l.length)
    (h : w3.ownsRow base e 1 v3 (0 + k + 1 + (l.length - k)) ([] ++ ints (l.take k) ++ ints [x] ++ ints (l.drop k))) :
    ∃ g c', v3 = .slice (some ⟨g, 0, none⟩) (l.take k ++ x :: l.drop k).length c' ∧ IC w3 (some ⟨g, 0, none⟩) (l.take k ++ x :: l.drop k) ∧ (l.take k ++ x :: l.drop k).length ≤ c' ∧ c' ≤ maxLen ∧ base ≤ g := by
  have e1 : 0 + k + 1 + (l.length - k) = (l.take k ++ x :: l.drop k).length := by simp; omega
  have e2 : [] ++ ints (l.take k) ++ ints [x] ++ ints (l.drop k) = ints (l.take k ++ x :: l.drop k) := by simp [ints]
  rw [e1, e2] at h
  rcases h.2 with ⟨_, h0⟩ | ⟨g, c, cur, hv, hlo, _, hc, hm, _⟩
  · simp at h0
  · subst hv
    obtain ⟨a', c', he, _, hi⟩ := (Own.of h).ic
    cases he
    exact ⟨g, c, rfl, hi, hc, hm, hlo⟩
end Go.KD

namespace Go.KD
open Go.RowKit
def CVQ (W : World) (b off : Nat) (vs : List Value) : Prop := ∀ j u, vs[j]? = some u → W.cell? ((⟨b, off, none⟩ : Addr).add j) = some u
theorem CVQ.later {W W' : World} {b off : Nat} {vs : List Value} (h : CVQ W b off vs) (hb : b < W.heap.size) (hB : Below W.heap.size W W') : CVQ W' b off vs := fun j u hu => by
  have := h j u hu
  rw [add_at rfl] at this ⊢
  rw [hB.cell (p := ⟨b, off + j, none⟩) hb]; exact this
theorem cvq_take {W : World} {b off : Nat} {vs : List Value} (h : CVQ W b off vs) (k : Nat) : ∀ j u, (vs.take k)[j]? = some u → W.cell? ((⟨b, off, none⟩ : Addr).add j) = some u := by
  intro j u hu
  rw [List.getElem?_take] at hu
  split at hu
  · exact h j u hu
  · cases hu
theorem cvq_drop {W : World} {b off : Nat} {vs : List Value} (h : CVQ W b off vs) (k : Nat) : ∀ j u, (vs.drop k)[j]? = some u → W.cell? ((⟨b, off + k, none⟩ : Addr).add j) = some u := by
  intro j u hu
  rw [List.getElem?_drop] at hu
  have := h _ u hu
  rw [add_at rfl] at this ⊢
  rw [Nat.add_assoc]; exact this
theorem own_emptyG {W : World} {N base size : Nat} {e : TypeId} (h : W.heap[N]? = some (.cells #[] e)) (hb : base ≤ N) : W.ownsRow base e size (.slice (some ⟨N, 0, none⟩) 0 0) 0 [] :=
  ⟨by simp, .inr ⟨N, 0, #[], rfl, hb, h, Nat.le_refl _, Nat.zero_le _, by simp, by simp⟩⟩
theorem own_someS {w : World} {base : Nat} {e : TypeId} {size n : Nat} {v : Value} {xs : List Value} (h : w.ownsRow base e size v n xs) (hn : 0 < n) : ∃ g c, v = .slice (some ⟨g, 0, none⟩) n c ∧ n ≤ c ∧ c ≤ maxLen := by
  rcases h.2 with ⟨_, h0⟩ | ⟨g, cap, cur, hv, _, _, h1, h2, _⟩
  · omega
  · exact ⟨g, cap, hv, h1, h2⟩
end Go.KD

namespace Go.KD
open Go.RowKit
/-- The numbers l lie behind a slice's address, in a block from base on, with room that is free. -/
def QAt (base : Nat) (w : World) (v : Value) (l : List Int) : Prop :=
  ∃ g off cap, v = .slice (some ⟨g, off, none⟩) l.length cap ∧ base ≤ g ∧ g < w.heap.size ∧ l.length ≤ cap ∧ cap ≤ maxLen ∧ (∀ j, j < l.length → w.cell? ⟨g, off + j, none⟩ = some (.int .i64 l[j]!)) ∧
    ∀ j, j < cap → (w.cell? ⟨g, off + j, none⟩).isSome = true ∧ w.frozen? ⟨g, off + j, none⟩ = false
theorem QAt.later {base : Nat} {w w' : World} {v : Value} {l : List Int} (h : QAt base w v l) (hb : Below w.heap.size w w') : QAt base w' v l := by
  obtain ⟨g, off, cap, hv, h1, h2, h3, h4, h5, h6⟩ := h
  refine ⟨g, off, cap, hv, h1, by have := hb.size; omega, h3, h4, fun j hj => ?_, fun j hj => ?_⟩
  · rw [hb.cell (p := ⟨g, off + j, none⟩) h2]; exact h5 j hj
  · rw [hb.cell (p := ⟨g, off + j, none⟩) h2, hb.frozen (p := ⟨g, off + j, none⟩) h2]; exact h6 j hj
theorem QAt.tail {base g off n cap : Nat} {w : World} {x : Int} {l : List Int} (h : QAt base w (.slice (some ⟨g, off, none⟩) n cap) (x :: l)) {a' : Addr} {n' cap' : Nat} (hn' : n' = l.length) (hc' : cap' = cap - 1) (ha' : a' = if cap = 1 then ⟨g, off, none⟩ else ⟨g, off + 1, none⟩) : QAt base w (.slice (some a') n' cap') l := by
  obtain ⟨g', off', cap0, hv, h1, h2, h3, h4, h5, h6⟩ := h
  cases hv
  subst hn'; subst hc'
  simp only [List.length_cons] at h3 h5
  by_cases hc : cap = 1
  · rw [if_pos hc] at ha'
    subst ha'
    refine ⟨g, off, cap - 1, rfl, h1, h2, by omega, by omega, fun j hj => by omega, fun j hj => by omega⟩
  · rw [if_neg hc] at ha'
    subst ha'
    refine ⟨g, off + 1, cap - 1, rfl, h1, h2, by omega, by omega, fun j hj => ?_, fun j hj => ?_⟩
    · rw [Nat.add_assoc, Nat.add_comm 1 j]
      have h5j := h5 (j + 1) (by omega)
      first | exact h5j | (rw [h5j]; simp; done) | (simp at h5j ⊢; exact h5j)
    · rw [Nat.add_assoc, Nat.add_comm 1 j]; exact h6 (j + 1) (by omega)
theorem below_setCells {base b : Nat} (hb : base ≤ b) : ∀ (vs : List Value) (o : Nat) (w : World), Below base w (w.setCells b o vs)
  | [], _, w => Below.refl _ _
  | v :: r, o, w => ((Below.refl base w).setCell (p := ⟨b, o, none⟩) hb v).trans (below_setCells hb r (o + 1) _)
theorem size_setCells (b : Nat) : ∀ (vs : List Value) (o : Nat) (w : World), (w.setCells b o vs).heap.size = w.heap.size
  | [], _, w => rfl
  | v :: r, o, w => by rw [World.setCells, size_setCells b r]; simp
/-- News out of a slice of numbers. -/
theorem src_ints {P : Program} {w : World} {t e : TypeId} (ht : P.underlying t = some (.slice e)) (a : Option Addr) (c : Nat) (l : List Int) (h : IC w a l) : Src P 1 t (.slice a l.length c) l.length (ints l) w := by
  cases a with
  | none =>
    have h0 : l = [] := by
      cases l with
      | nil => rfl
      | cons x l => obtain ⟨b, off, h, _⟩ := h 0 (by simp); cases h
    subst h0
    exact Src.ofNil w ht c
  | some ad =>
    refine Src.ofSlice w ht ad l.length c (ints l) (by simp) (fun j u hu => ?_) (fun u hu => ?_)
    · have hj : j < l.length := by
        rcases Nat.lt_or_ge j l.length with h | h
        · exact h
        · rw [List.getElem?_eq_none (by simpa using h)] at hu; cases hu
      obtain ⟨b, off, hb, hbs, hc⟩ := h j hj
      cases hb
      rw [add_at rfl, hc, ← hu, ints, List.getElem?_map, List.getElem?_eq_getElem hj, getElem!_pos l j hj]
      rfl
    · simp only [ints, List.mem_map] at hu
      obtain ⟨x, _, rfl⟩ := hu
      rfl
theorem get_app {l k : List Int} {j : Nat} : (l ++ k)[j]! = if j < l.length then l[j]! else k[j - l.length]! := by
  by_cases h : j < l.length
  · rw [if_pos h, getElem!_def, getElem!_def, List.getElem?_append_left h]
  · rw [if_neg h, getElem!_def, getElem!_def, List.getElem?_append_right (by omega)]
theorem run_append_queue {P : Program} (w : World) (t ty e : TypeId) (i : TypeInfo) (z : Value) (ht : P.underlying t = some (.slice e)) (hi : P.info? e = some i) (hz : i.zero = some z) (hsize : i.size = 1) (hby : i.bytes = 8) (hzs : z.cells.size = 1)
    (base : Nat) (v : Value) (l : List Int) (hq : QAt base w v l) (a : Option Addr) (c : Nat) (k : List Int) (hk : IC w a k) (hl : l.length + k.length ≤ 1000000) (hbase : base ≤ w.heap.size) :
    ∃ v' w', (Builtin.append_ #[t, t] ty #[v, .slice a k.length c]).run P w = .ok v' w' ∧ QAt base w' v' (l ++ k) ∧ Below base w w' := by
  obtain ⟨g, off, cap, rfl, h1, h2, h3, h4, h5, h6⟩ := hq
  have hs := src_ints (P := P) ht a c k hk
  rw [← hsize] at hs
  by_cases hfit : l.length + k.length ≤ cap
  · have hrun := run_append_room_src (P := P) w t t ty e i ht hi g off l.length cap _ k.length (ints k) hs hfit (fun j hj => by
      rw [hsize, Nat.mul_one, Nat.add_assoc]; exact (h6 (l.length + j) (by rw [length_ints] at hj; omega)).1) (fun j hj => by
      rw [hsize, Nat.mul_one, Nat.add_assoc]; exact (h6 (l.length + j) (by rw [length_ints] at hj; omega)).2)
    rw [hsize, Nat.mul_one] at hrun
    have hsome : ∀ j, j < (ints k).length → (w.cell? ⟨g, off + l.length + j, none⟩).isSome = true := fun j hj => by
      rw [Nat.add_assoc]; exact (h6 (l.length + j) (by rw [length_ints] at hj; omega)).1
    refine ⟨_, _, hrun, ⟨g, off, cap, by rw [List.length_append], h1, by rw [size_setCells]; exact h2, by rw [List.length_append]; exact hfit, h4, fun j hj => ?_, fun j hj => ?_⟩, below_setCells h1 _ _ _⟩
    · rw [get_app]
      rw [List.length_append] at hj
      by_cases hjl : j < l.length
      · rw [if_pos hjl, World.cell?_setCells_out g _ _ _ _ (fun _ _ => Or.inl (by show off + j < off + l.length; omega))]
        exact h5 j hjl
      · rw [if_neg hjl]
        have := World.cell?_setCells_in g (ints k) (off + l.length) w hsome (j - l.length) (by rw [length_ints]; omega)
        rw [show off + l.length + (j - l.length) = off + j by omega] at this
        rw [this]
        simp only [ints, List.getElem_map]
        rw [getElem!_pos k (j - l.length) (by omega)]
    · rw [World.frozen?_setCells]
      refine ⟨?_, (h6 j hj).2⟩
      by_cases hjl : off + l.length ≤ off + j ∧ off + j < off + l.length + (ints k).length
      · have := World.cell?_setCells_in g (ints k) (off + l.length) w hsome (j - l.length) (by omega)
        rw [show off + l.length + (j - l.length) = off + j by omega] at this
        rw [this]; rfl
      · rw [World.cell?_setCells_out g _ _ _ _ (fun _ _ => by show off + j < off + l.length ∨ off + l.length + (ints k).length ≤ off + j; omega)]
        exact (h6 j hj).1
  · have hold : (Builtin.firstCells i.size l.length (.slice (some ⟨g, off, none⟩) l.length cap)).run P w.drew = .ok (ints l).toArray w.drew := by
      refine run_firstCells_some w.drew i.size l.length ⟨g, off, none⟩ l.length cap (ints l) (by rw [hsize]; simp) (fun j u hu => ?_)
      have hj : j < l.length := by
        rcases Nat.lt_or_ge j l.length with h | h
        · exact h
        · rw [List.getElem?_eq_none (by simpa using h)] at hu; cases hu
      rw [add_at rfl]
      show w.cell? ⟨g, off + j, none⟩ = some u
      rw [h5 j hj, ← hu, ints, List.getElem?_map, List.getElem?_eq_getElem hj, getElem!_pos l j hj]
      rfl
    have hge := grownCap_ge w (l.length + k.length) cap e
    have hcm := grownCap_le_maxLen w (l.length + k.length) cap e (by unfold maxLen; omega)
    have hrun := run_append_grow_src (P := P) w t t ty e i z ht hi hz (some ⟨g, off, none⟩) l.length cap (ints l) hold _ k.length (ints k) hs (by omega) (by omega) (by rw [hby]; exact growslice_fits (by omega) (by omega))
    have hL : (ints l ++ ints k).length = l.length + k.length := by simp
    refine ⟨_, _, hrun, ⟨w.heap.size, 0, _, by rw [List.length_append], hbase, by simp, by rw [List.length_append]; omega, hcm, fun j hj => ?_, fun j hj => ?_⟩, ((Below.refl base w).drew).alloc (by simpa using hbase) _⟩
    · rw [List.length_append] at hj
      rw [Nat.zero_add]
      have e1 : (w.drew.alloc (.cells ((ints l ++ ints k).toArray ++ Builtin.zeroCells z.cells (grownCap w (l.length + k.length) cap e - (l.length + k.length))) e)).cell? ⟨w.heap.size, j, none⟩ = _ := World.cell?_alloc_new w.drew _ _ j
      rw [e1, Array.getElem?_append_left (by simp only [List.size_toArray]; omega), List.getElem?_toArray, ← show ints (l ++ k) = ints l ++ ints k from by simp [ints], ints, List.getElem?_map, List.getElem?_eq_getElem (by rw [List.length_append]; omega), getElem!_pos (l ++ k) j (by rw [List.length_append]; omega)]
      rfl
    · rw [Nat.zero_add]
      have e1 : (w.drew.alloc (.cells ((ints l ++ ints k).toArray ++ Builtin.zeroCells z.cells (grownCap w (l.length + k.length) cap e - (l.length + k.length))) e)).cell? ⟨w.heap.size, j, none⟩ = _ := World.cell?_alloc_new w.drew _ _ j
      have hsz : ((ints l ++ ints k).toArray ++ Builtin.zeroCells z.cells (grownCap w (l.length + k.length) cap e - (l.length + k.length))).size = grownCap w (l.length + k.length) cap e := by
        rw [Array.size_append, List.size_toArray, hL, size_zeroCells, hzs]; omega
      refine ⟨?_, World.frozen?_alloc_new w.drew _ _ j⟩
      rw [e1, Array.getElem?_eq_getElem (by rw [hsz]; exact hj)]
      rfl
end Go.KD
namespace Go
open Go.RowKit Go.KD
theorem step_append_queue {P : Program} (w : World) {ops : Array Oper} {o : Oper} {a : Act} {K : Act → World → Prop} {Q : Exit → Act → World → Prop} {E : Prop} (hgd : o.guard = none) (s x : Operand) (t : TypeId)
    (ho : o.op = .call { callee := .builtin .append, args := #[s, x], argTypes := #[t, t] })
    (e : TypeId) (i : TypeInfo) (z : Value) (ht : P.underlying t = some (.slice e)) (hi : P.info? e = some i) (hz : i.zero = some z) (hsize : i.size = 1) (hby : i.bytes = 8) (hzs : z.cells.size = 1)
    (base : Nat) (v : Value) (l : List Int) (hs : a.eval s = v) (hq : QAt base w v l) (ad : Option Addr) (c : Nat) (k : List Int) (hx : a.eval x = .slice ad k.length c) (hk : IC w ad k) (hl : l.length + k.length ≤ 1000000) (hbase : base ≤ w.heap.size)
    (h : ∀ v' w', QAt base w' v' (l ++ k) → Below base w w' → K (a.put o.dst v') w') :
    if Region.wanted o (yielded ops a.tmps) = true then Oper.wp P o a w K Q else E := by
  have hw : Region.wanted o (yielded ops a.tmps) = true := by simp [Region.wanted, hgd]
  rw [if_pos hw]
  obtain ⟨v', w', hr, h2, h3⟩ := run_append_queue (P := P) w t o.type e i z ht hi hz hsize hby hzs base v l hq ad c k hk hl hbase
  unfold Oper.wp execOp
  simp only [ho, resolve, invoke, builtin, Sem.run_bind, Sem.run_pure, Result.andThen_ok, List.map_toArray, List.map_cons, List.map_nil, hs, hx, hr]
  exact h v' w' h2 h3
end Go

namespace Go.KD
open Go.RowKit
/-- Does the set s have all colours of o? -/
def subB (o s : Nat) : Bool := andn o s == 0
theorem subB_iff {o s : Nat} : subB o s = true ↔ ∀ i, o.testBit i = true → s.testBit i = true := by
  unfold subB
  rw [beq_iff_eq]
  constructor
  · intro h i hi
    have := congrArg (fun z => Nat.testBit z i) h
    simp only [andn_bit, Nat.zero_testBit, hi, Bool.true_and, Bool.not_eq_false'] at this
    exact this
  · intro h
    apply Nat.eq_of_testBit_eq
    intro i
    rw [andn_bit, Nat.zero_testBit]
    cases ho : o.testBit i
    · rfl
    · rw [h i ho]; rfl
theorem subB_and (o s : Nat) : (s &&& o == o) = subB o s := by
  rw [Bool.eq_iff_iff, subB_iff, beq_iff_eq]
  constructor
  · intro h i hi
    have := congrArg (fun z => Nat.testBit z i) h
    simp only [Nat.testBit_and, hi, Bool.and_true] at this
    exact this
  · intro h
    apply Nat.eq_of_testBit_eq
    intro i
    rw [Nat.testBit_and]
    cases ho : o.testBit i
    · simp
    · rw [h i ho]; rfl
theorem lt_of_bits {x n : Nat} (h : ∀ i, x.testBit i = true → i < n) : x < 2 ^ n := by
  apply Nat.lt_pow_two_of_testBit
  intro i hi
  cases hx : x.testBit i
  · rfl
  · have := h i hx; omega
theorem bit_lt {x n i : Nat} (h : x < 2 ^ n) (hi : x.testBit i = true) : i < n := by
  rcases Nat.lt_or_ge i n with h' | h'
  · exact h'
  · rw [Nat.testBit_lt_two_pow (Nat.lt_of_lt_of_le h (Nat.pow_le_pow_right (by decide) h'))] at hi; cases hi
theorem door_facts {m : Mz} (h : MzOk m) {k : Nat} (hk : k < m.doors.length) {x y z : Int} (hg : m.doors[k]! = (x, y, z)) : 0 ≤ x ∧ x < y ∧ y < m.size ∧ 0 ≤ z ∧ z < 64 := by
  have := h.dr k hk
  rw [doorB_eq hg] at this
  simp only [Bool.and_eq_true, inB_true, setB_true] at this
  omega
theorem key_facts {m : Mz} (h : MzOk m) {k : Nat} (hk : k < m.keys.length) : 0 ≤ m.keys[k]! ∧ m.keys[k]! < 64 := by
  have := setB_true.1 (h.ks k hk)
  omega
theorem setN_bit (s : Nat) (a : Int) (i : Nat) : (setN s a).testBit i = (s.testBit i || decide (a.toNat = i)) := by
  unfold setN; rw [Nat.testBit_or, Nat.testBit_two_pow]
/-- A door as a step from x with the colours s. -/
def joinD (x : Int) (s acc : Nat) (d : D3) : Nat :=
  if subB d.2.2.toNat s then (if d.2.1 = x then setN (if d.1 = x then setN acc d.2.1 else acc) d.1 else (if d.1 = x then setN acc d.2.1 else acc)) else acc
def stK (ds : List D3) (x : Int) (s k : Nat) : Nat := (ds.take k).foldl (joinD x s) 0
def stN (m : Mz) (x : Int) (s : Nat) : Nat := stK m.doors x s m.doors.length
/-- Is a door between x and y, and open with the colours s? -/
def opnD (x y : Int) (s : Nat) (d : D3) : Bool := ((d.1 == x && d.2.1 == y) || (d.1 == y && d.2.1 == x)) && subB d.2.2.toNat s
def opnB (m : Mz) (x y : Int) (s : Nat) : Bool := m.doors.any (opnD x y s)
theorem st_step {ds : List D3} {x : Int} {s k : Nat} (hk : k < ds.length) : stK ds x s (k + 1) = joinD x s (stK ds x s k) ds[k]! := by
  unfold stK
  rw [take_snoc hk, List.foldl_append]
  rfl
theorem joinD_bit {x : Int} {s acc : Nat} {d : D3} {i : Nat} (h1 : 0 ≤ d.1) (h2 : 0 ≤ d.2.1) : (joinD x s acc d).testBit i = (acc.testBit i || opnD x i s d) := by
  obtain ⟨a, b, c⟩ := d
  dsimp only at h1 h2
  unfold joinD opnD
  dsimp only
  cases hs : subB c.toNat s
  · simp
  · have e1 : (decide (a.toNat = i)) = (a == (i : Int)) := by rw [Bool.eq_iff_iff]; simp; omega
    have e2 : (decide (b.toNat = i)) = (b == (i : Int)) := by rw [Bool.eq_iff_iff]; simp; omega
    have fa : (if a = x then setN acc b else acc).testBit i = (acc.testBit i || (a == x && b == (i : Int))) := by
      by_cases ha : a = x
      · rw [if_pos ha, setN_bit, e2, ha]; simp
      · have : (a == x) = false := by simpa using ha
        rw [if_neg ha, this]; simp
    by_cases hb : b = x
    · rw [if_pos rfl, if_pos hb, setN_bit, fa, e1, hb]
      simp [Bool.or_assoc]
    · have : (b == x) = false := by simpa using hb
      rw [if_pos rfl, if_neg hb, fa, this]; simp
theorem stK_bit {m : Mz} (ok : MzOk m) (x : Int) (s i : Nat) : ∀ k, k ≤ m.doors.length → (stK m.doors x s k).testBit i = (m.doors.take k).any (opnD x i s)
  | 0, _ => by simp [stK]
  | k + 1, hk => by
    have hk' : k < m.doors.length := by omega
    obtain ⟨a, b, c, hg⟩ : ∃ a b c, m.doors[k]! = (a, b, c) := ⟨_, _, _, rfl⟩
    have f := door_facts ok hk' hg
    rw [st_step hk', joinD_bit (by rw [hg]; exact f.1) (by rw [hg]; show 0 ≤ b; omega), stK_bit ok x s i k (by omega), take_snoc hk', List.any_append]
    simp
theorem stN_bit {m : Mz} (ok : MzOk m) (x : Int) (s i : Nat) : (stN m x s).testBit i = opnB m x i s := by
  unfold stN opnB
  rw [stK_bit ok x s i _ (Nat.le_refl _), List.take_length]
theorem opnB_iff {m : Mz} {x y : Int} {s : Nat} : opnB m x y s = true ↔ ∃ k, k < m.doors.length ∧ opnD x y s m.doors[k]! = true := by
  unfold opnB
  rw [List.any_eq_true]
  constructor
  · rintro ⟨d, hd, h⟩
    obtain ⟨k, hk, rfl⟩ := List.mem_iff_getElem.1 hd
    exact ⟨k, hk, by rwa [getElem!_pos m.doors k hk]⟩
  · rintro ⟨k, hk, h⟩
    exact ⟨_, List.getElem_mem hk, by rwa [getElem!_pos m.doors k hk] at h⟩
theorem opn_range {m : Mz} (ok : MzOk m) {x y : Int} {s : Nat} (h : opnB m x y s = true) : 0 ≤ x ∧ x < m.size ∧ 0 ≤ y ∧ y < m.size := by
  obtain ⟨k, hk, h⟩ := opnB_iff.1 h
  obtain ⟨a, b, c, hg⟩ : ∃ a b c, m.doors[k]! = (a, b, c) := ⟨_, _, _, rfl⟩
  have f := door_facts ok hk hg
  rw [hg] at h
  simp only [opnD, Bool.and_eq_true, Bool.or_eq_true, beq_iff_eq] at h
  omega
theorem stK_lt {m : Mz} (ok : MzOk m) (x : Int) (s k : Nat) (hk : k ≤ m.doors.length) : stK m.doors x s k < 4096 := by
  have hs := ok.s2
  refine lt_of_bits (n := 12) fun i hi => ?_
  rw [stK_bit ok x s i k hk, List.any_eq_true] at hi
  obtain ⟨d, hd, h⟩ := hi
  have := opn_range ok (x := x) (y := i) (s := s) (by unfold opnB; rw [List.any_eq_true]; exact ⟨d, List.mem_of_mem_take hd, h⟩)
  omega
theorem stN_lt {m : Mz} (ok : MzOk m) (x : Int) (s : Nat) : stN m x s < 4096 := stK_lt ok x s _ (Nat.le_refl _)
/-- The colours of the keys at nodes of a list. -/
def keysL (m : Mz) (l : List Int) : Nat := l.foldl (fun a x => a ||| m.keys[x.toNat]!.toNat) 0
def unionL (m : Mz) (s : Nat) (l : List Int) : Nat := l.foldl (fun a x => a ||| stN m x s) 0
def keyN (m : Mz) (n : Nat) : Nat := keysL m (mem n)
/-- The nodes that can be entered behind some nodes. -/
def nexN (m : Mz) (n : Nat) : Nat := andn (unionL m (keyN m n) (mem n)) n
theorem keysL_snoc (m : Mz) (l : List Int) (x : Int) : keysL m (l ++ [x]) = keysL m l ||| m.keys[x.toNat]!.toNat := by simp [keysL]
theorem unionL_snoc (m : Mz) (s : Nat) (l : List Int) (x : Int) : unionL m s (l ++ [x]) = unionL m s l ||| stN m x s := by simp [unionL]
theorem fold_or_bit {α : Type} (f : α → Nat) (i : Nat) : ∀ (l : List α) (a : Nat), (l.foldl (fun a x => a ||| f x) a).testBit i = (a.testBit i || l.any fun x => (f x).testBit i)
  | [], a => by simp
  | x :: l, a => by rw [List.foldl_cons, fold_or_bit f i l, Nat.testBit_or, List.any_cons, Bool.or_assoc]
theorem keysL_bit (m : Mz) (l : List Int) (i : Nat) : (keysL m l).testBit i = l.any fun x => (m.keys[x.toNat]!.toNat).testBit i := by unfold keysL; rw [fold_or_bit]; simp
theorem unionL_bit (m : Mz) (s : Nat) (l : List Int) (i : Nat) : (unionL m s l).testBit i = l.any fun x => (stN m x s).testBit i := by unfold unionL; rw [fold_or_bit]; simp
theorem keys_lt {m : Mz} (ok : MzOk m) (k : Nat) : m.keys[k]!.toNat < 64 := by
  rcases Nat.lt_or_ge k m.keys.length with h | h
  · have := key_facts ok h; omega
  · rw [getElem!_def, List.getElem?_eq_none h]; decide
theorem keysL_lt {m : Mz} (ok : MzOk m) (l : List Int) : keysL m l < 64 := by
  refine lt_of_bits (n := 6) fun i hi => ?_
  rw [keysL_bit, List.any_eq_true] at hi
  obtain ⟨x, _, h⟩ := hi
  exact bit_lt (n := 6) (keys_lt ok _) h
theorem unionL_lt {m : Mz} (ok : MzOk m) (s : Nat) (l : List Int) : unionL m s l < 4096 := by
  refine lt_of_bits (n := 12) fun i hi => ?_
  rw [unionL_bit, List.any_eq_true] at hi
  obtain ⟨x, _, h⟩ := hi
  exact bit_lt (n := 12) (stN_lt ok _ _) h
theorem nexN_lt {m : Mz} (ok : MzOk m) (n : Nat) : nexN m n < 4096 := andn_lt (n := 12) (unionL_lt ok _ _)
theorem nexN_bit {m : Mz} (ok : MzOk m) {n : Nat} (hn : n < 4096) (y : Nat) : (nexN m n).testBit y = true ↔ n.testBit y = false ∧ ∃ x : Nat, n.testBit x = true ∧ opnB m x y (keyN m n) = true := by
  unfold nexN
  rw [andn_bit, Bool.and_eq_true, Bool.not_eq_true', unionL_bit, List.any_eq_true]
  constructor
  · rintro ⟨⟨x, hx, h⟩, h0⟩
    obtain ⟨i, _, hi, rfl⟩ := (in_mem n x).1 hx
    exact ⟨h0, i, hi, by rw [← stN_bit ok]; exact h⟩
  · rintro ⟨h0, x, hx, h⟩
    refine ⟨⟨x, (in_mem n x).2 ⟨x, by have := bit_lt (n := 12) hn hx; omega, hx, rfl⟩, by rw [stN_bit ok]; exact h⟩, h0⟩
theorem nexN_size {m : Mz} (ok : MzOk m) {n y : Nat} (hn : n < 4096) (h : (nexN m n).testBit y = true) : (y : Int) < m.size := by
  obtain ⟨_, x, _, h⟩ := (nexN_bit ok hn y).1 h
  exact (opn_range ok h).2.2.2
theorem memK_all {x : Nat} {s : Nat} (hs : s ≤ 40) (h : ∀ i, x.testBit i = true → i < s) : memK x s = mem x := by
  rw [mem_eq, show (40 : Nat) = s + (40 - s) from by omega]
  symm
  apply memK_end
  rw [Nat.shiftRight_eq_div_pow]
  exact Nat.div_eq_of_lt (lt_of_bits h)
theorem mem_len40' (x : Nat) : (mem x).length ≤ 40 := by rw [mem_eq]; exact memK_len _ _
theorem mem_popN {x : Nat} (hx : x < 4096) : (mem x).length = popN x := by
  rw [← memK_all (s := 12) (by omega) fun i hi => bit_lt (n := 12) hx hi]
  simp [memK, popN]
theorem hasI_mem {x : Nat} (hx : x < 1099511627776) (y : Int) : y ∈ mem x ↔ 0 ≤ y ∧ x.testBit y.toNat = true := by
  rw [in_mem]
  constructor
  · rintro ⟨i, h1, h2, rfl⟩; exact ⟨by omega, by simpa using h2⟩
  · rintro ⟨h1, h2⟩; exact ⟨y.toNat, bit_lt (n := 40) hx h2, h2, by omega⟩
/-! The largest entry set -/
def lgN (m : Mz) (code out : Nat) : Nat := out ||| (nexN m out &&& code)
def itL (m : Mz) (code : Nat) : Nat → Nat
  | 0 => code &&& 1
  | k + 1 => lgN m code (itL m code k)
def largN (m : Mz) (code : Nat) : Nat := itL m code 4096
theorem itL_lt {m : Mz} (ok : MzOk m) (code : Nat) : ∀ k, itL m code k < 4096
  | 0 => Nat.lt_of_le_of_lt Nat.and_le_right (by decide)
  | k + 1 => Nat.or_lt_two_pow (n := 12) (itL_lt ok code k) (Nat.lt_of_le_of_lt Nat.and_le_left (nexN_lt ok _))
theorem itL_end {m : Mz} {code k : Nat} (h : nexN m (itL m code k) &&& code = 0) : ∀ j, itL m code (k + j) = itL m code k
  | 0 => rfl
  | j + 1 => by
    show lgN m code (itL m code (k + j)) = _
    rw [itL_end h j, lgN, h, Nat.or_zero]
theorem largN_end {m : Mz} (ok : MzOk m) {code k : Nat} (hk : k ≤ itL m code k) (h : nexN m (itL m code k) &&& code = 0) : largN m code = itL m code k := by
  have := itL_lt ok code k
  unfold largN
  rw [show 4096 = k + (4096 - k) from by omega, itL_end h]
theorem lgN_grows {m : Mz} {code out : Nat} (h : nexN m out &&& code ≠ 0) : out < lgN m code out := by
  unfold lgN
  have h1 : out ≤ out ||| (nexN m out &&& code) := Nat.left_le_or
  rcases Nat.lt_or_ge out (out ||| (nexN m out &&& code)) with h2 | h2
  · exact h2
  · exfalso
    apply h
    have e : out ||| (nexN m out &&& code) = out := by omega
    apply Nat.eq_of_testBit_eq
    intro i
    have := congrArg (fun z => Nat.testBit z i) e
    simp only [Nat.testBit_or, Nat.testBit_and, nexN, andn_bit, Nat.zero_testBit] at this ⊢
    cases ho : out.testBit i <;> simp_all
theorem lgN_same {m : Mz} {code out : Nat} (h : lgN m code out = out) : nexN m out &&& code = 0 := by
  rcases Nat.eq_zero_or_pos (nexN m out &&& code) with h0 | h0
  · exact h0
  · have := lgN_grows (m := m) (code := code) (out := out) (by omega); omega
/-! Entry orders -/
def ordOk (m : Mz) (l : List Int) (k n : Nat) : Bool := inB l[k]! 0 (m.size - 1) && (if k = 0 then l[k]! == 0 else (nexN m n).testBit l[k]!.toNat)
def ordK (m : Mz) (l : List Int) : Nat → Option Nat
  | 0 => some 0
  | k + 1 => match ordK m l k with | none => none | some n => if ordOk m l k n then some (setN n l[k]!) else none
def ordP (m : Mz) (l : List Int) : Nat × Bool := if l.length = 0 then (0, false) else match ordK m l l.length with | some n => (n, true) | none => (0, false)
theorem ordK_none {m : Mz} {l : List Int} {k : Nat} (h : ordK m l k = none) : ∀ j, ordK m l (k + j) = none
  | 0 => h
  | j + 1 => by show ordK m l ((k + j) + 1) = none; unfold ordK; rw [ordK_none h j]
theorem ordK_lt {m : Mz} (ok : MzOk m) {l : List Int} : ∀ k n, ordK m l k = some n → n < 4096
  | 0, n, h => by simp only [ordK, Option.some.injEq] at h; omega
  | k + 1, n, h => by
    unfold ordK at h
    split at h
    · cases h
    · rename_i n0 h0
      have ih := ordK_lt ok k n0 h0
      split at h
      · rename_i hb
        simp only [Option.some.injEq] at h
        simp only [ordOk, Bool.and_eq_true, inB_true] at hb
        have := ok.s2
        rw [← h]; exact setN_lt ih (by omega)
      · cases h
theorem ordP_bad {m : Mz} {l : List Int} {k n : Nat} (hk : k < l.length) (h : ordK m l k = some n) (hb : ordOk m l k n = false) : ordP m l = (0, false) := by
  have h1 : ordK m l (k + 1) = none := by unfold ordK; rw [h]; simp [hb]
  have h2 := ordK_none h1 (l.length - (k + 1))
  rw [show k + 1 + (l.length - (k + 1)) = l.length from by omega] at h2
  unfold ordP
  rw [if_neg (by omega), h2]
theorem ordP_good {m : Mz} {l : List Int} {n : Nat} (hl : l.length ≠ 0) (h : ordK m l l.length = some n) : ordP m l = (n, true) := by
  unfold ordP
  rw [if_neg hl, h]
/-! Rising lists of nodes -/
def riseB (m : Mz) (l : List Int) (k : Nat) : Bool := inB l[k]! 0 (m.size - 1) && (k == 0 || decide (l[k-1]! < l[k]!))
def codeK (l : List Int) (k : Nat) : Nat := (l.take k).foldl setN 0
def codeL (l : List Int) : Nat := codeK l l.length
open Classical in
noncomputable def risesB (m : Mz) (l : List Int) : Bool := decide (∀ k, k < l.length → riseB m l k = true)
theorem risesB_true {m : Mz} {l : List Int} : risesB m l = true ↔ ∀ k, k < l.length → riseB m l k = true := by simp [risesB]
theorem risesB_no {m : Mz} {l : List Int} {k : Nat} (hk : k < l.length) (h : riseB m l k = false) : risesB m l = false := by
  rw [Bool.eq_false_iff, ne_eq, risesB_true]
  intro h'
  rw [h' k hk] at h; cases h
theorem codeK_step {l : List Int} {k : Nat} (hk : k < l.length) : codeK l (k + 1) = setN (codeK l k) l[k]! := by
  unfold codeK
  rw [take_snoc hk, List.foldl_append]
  rfl
theorem codeK_lt {m : Mz} (ok : MzOk m) {l : List Int} : ∀ k, k ≤ l.length → (∀ j, j < k → inB l[j]! 0 (m.size - 1) = true) → codeK l k < 4096
  | 0, _, _ => by simp [codeK]
  | k + 1, hk, h => by
    rw [codeK_step (by omega)]
    have := ok.s2
    have h1 := inB_true.1 (h k (by omega))
    exact setN_lt (codeK_lt ok k (by omega) fun j hj => h j (by omega)) (by omega)
theorem riseB_in {m : Mz} {l : List Int} {k : Nat} (h : riseB m l k = true) : inB l[k]! 0 (m.size - 1) = true := by
  simp only [riseB, Bool.and_eq_true] at h; exact h.1
theorem codeK_bit (l : List Int) (i : Nat) : ∀ k, k ≤ l.length → (codeK l k).testBit i = (l.take k).any fun x => decide (x.toNat = i)
  | 0, _ => by simp [codeK]
  | k + 1, hk => by
    rw [codeK_step (by omega), setN_bit, codeK_bit l i k (by omega), take_snoc (by omega), List.any_append]
    simp
/-- Has a list of nodes the node 0? -/
theorem codeL_zero {m : Mz} {l : List Int} (h : risesB m l = true) : (codeL l).testBit 0 = l.any (fun x => decide (x = 0)) := by
  unfold codeL
  rw [codeK_bit l 0 _ (Nat.le_refl _), List.take_length, Bool.eq_iff_iff, List.any_eq_true, List.any_eq_true]
  constructor
  · rintro ⟨x, hx, h1⟩
    obtain ⟨j, hj, rfl⟩ := List.mem_iff_getElem.1 hx
    have := inB_true.1 (riseB_in (risesB_true.1 h j hj))
    rw [getElem!_pos l j hj] at this
    exact ⟨_, hx, by simp at h1 ⊢; omega⟩
  · rintro ⟨x, hx, h1⟩
    exact ⟨x, hx, by simp at h1 ⊢; omega⟩
end Go.KD

namespace Go.KD
open Go.RowKit
theorem grow_fix (v : Nat → Nat) (P : Nat → Prop) (h : ∀ k, P k ∨ v k < v (k + 1)) (hb : ∀ k, v k < 4096) : ∃ k, k < 4096 ∧ P k := by
  refine Classical.byContradiction fun hn => ?_
  have hall : ∀ k, k ≤ 4096 → k ≤ v k := by
    intro k
    induction k with
    | zero => intro _; omega
    | succ k ih =>
      intro hk
      have := ih (by omega)
      rcases h k with hp | hp
      · exact absurd ⟨k, by omega, hp⟩ hn
      · omega
  have h1 := hall 4096 (Nat.le_refl _)
  have h2 := hb 4096
  omega
def pickN (last : Bool) (l : List Int) : Int := if last then l[l.length - 1]! else l[0]!
def fuS (m : Mz) (last : Bool) (s : List Int × Nat) : List Int × Nat := if nexN m s.2 = 0 then s else (s.1 ++ [pickN last (mem (nexN m s.2))], setN s.2 (pickN last (mem (nexN m s.2))))
def fuK (m : Mz) (last : Bool) : Nat → List Int × Nat
  | 0 => ([0], 1)
  | k + 1 => fuS m last (fuK m last k)
def fuFin (m : Mz) (last : Bool) (k : Nat) : List Int := (fuK m last k).1
def fullL (m : Mz) (last : Bool) : List Int := fuFin m last 4096
theorem fuFin_eq {m : Mz} {last : Bool} {n k : Nat} (h : fuK m last n = fuK m last k) : fuFin m last n = (fuK m last k).1 := by unfold fuFin; rw [h]
theorem fullL_eq {m : Mz} {last : Bool} {k : Nat} (h : fuK m last 4096 = fuK m last k) : fullL m last = (fuK m last k).1 := fuFin_eq h
theorem pick_mem {last : Bool} {l : List Int} (h : l ≠ []) : pickN last l ∈ l := by
  have hl : 0 < l.length := List.length_pos_iff.2 h
  unfold pickN
  split
  · rw [getElem!_pos l _ (by omega)]; exact List.getElem_mem _
  · rw [getElem!_pos l _ hl]; exact List.getElem_mem _
theorem mem_nil {x : Nat} (hx : x < 4096) (h : mem x = []) : x = 0 := by
  apply Nat.eq_of_testBit_eq
  intro i
  rw [Nat.zero_testBit]
  cases hi : x.testBit i
  · rfl
  · have : (i : Int) ∈ mem x := (in_mem x i).2 ⟨i, by have := bit_lt (n := 12) hx hi; omega, hi, rfl⟩
    rw [h] at this; cases this
theorem mem_zero : mem 0 = [] := by decide
theorem pick_next {m : Mz} (ok : MzOk m) (last : Bool) {n : Nat} (hn : n < 4096) (h : nexN m n ≠ 0) : ∃ i : Nat, pickN last (mem (nexN m n)) = i ∧ (nexN m n).testBit i = true ∧ i < 12 ∧ (i : Int) < m.size ∧ n.testBit i = false := by
  have h1 := pick_mem (last := last) (l := mem (nexN m n)) (fun e => h (mem_nil (nexN_lt ok n) e))
  obtain ⟨i, _, hi, he⟩ := (in_mem _ _).1 h1
  exact ⟨i, he, hi, bit_lt (n := 12) (nexN_lt ok n) hi, nexN_size ok hn hi, ((nexN_bit ok hn i).1 hi).1⟩
theorem fuS_code {m : Mz} (ok : MzOk m) (last : Bool) {s : List Int × Nat} (hs : s.2 < 4096) : (fuS m last s).2 < 4096 := by
  unfold fuS
  split
  · exact hs
  · rename_i h
    obtain ⟨i, he, _, h12, _, _⟩ := pick_next ok last hs h
    rw [he]
    exact setN_lt hs (by omega)
theorem fuK_lt {m : Mz} (ok : MzOk m) (last : Bool) : ∀ k, (fuK m last k).2 < 4096
  | 0 => by show 1 < 4096; omega
  | k + 1 => fuS_code ok last (fuK_lt ok last k)
theorem setN_grows {s i : Nat} (h : s.testBit i = false) : s < setN s (i : Int) := by
  have h1 : s ≤ setN s (i : Int) := Nat.left_le_or
  rcases Nat.lt_or_ge s (setN s i) with h2 | h2
  · exact h2
  · have e : setN s (i : Int) = s := by omega
    have := congrArg (fun z => Nat.testBit z i) e
    simp only [setN_bit] at this
    simp [h] at this
theorem fu_grows {m : Mz} (ok : MzOk m) (last : Bool) {s : List Int × Nat} (hs : s.2 < 4096) (h : nexN m s.2 ≠ 0) : s.2 < (fuS m last s).2 := by
  obtain ⟨i, he, _, h12, _, hb⟩ := pick_next ok last hs h
  unfold fuS
  rw [if_neg h, he]
  exact setN_grows hb
theorem fuK_end {m : Mz} {last : Bool} {k : Nat} (h : nexN m (fuK m last k).2 = 0) : ∀ j, fuK m last (k + j) = fuK m last k
  | 0 => rfl
  | j + 1 => by
    show fuS m last (fuK m last (k + j)) = _
    rw [fuK_end h j, fuS, if_pos h]
theorem fuK_full {m : Mz} (ok : MzOk m) {last : Bool} {k : Nat} (hk : k ≤ (fuK m last k).2) (h : nexN m (fuK m last k).2 = 0) : fuK m last 4096 = fuK m last k := by
  have := fuK_lt ok last k
  rw [show 4096 = k + (4096 - k) from by omega, fuK_end h]
theorem fuK_len {m : Mz} (ok : MzOk m) (last : Bool) : ∀ k, (fuK m last k).1.length ≤ (fuK m last k).2
  | 0 => by show 1 ≤ 1; omega
  | k + 1 => by
    have ih := fuK_len ok last k
    have hl := fuK_lt ok last k
    show (fuS m last _).1.length ≤ (fuS m last _).2
    by_cases h : nexN m (fuK m last k).2 = 0
    · rw [fuS, if_pos h]; exact ih
    · have := fu_grows ok last hl h
      have e : (fuS m last (fuK m last k)).1.length = (fuK m last k).1.length + 1 := by rw [fuS, if_neg h]; simp
      omega
theorem fuFin_len {m : Mz} (ok : MzOk m) (last : Bool) (k : Nat) : (fuFin m last k).length ≤ 4096 := Nat.le_trans (fuK_len ok last k) (Nat.le_of_lt (fuK_lt ok last k))
theorem fullL_len {m : Mz} (ok : MzOk m) (last : Bool) : (fullL m last).length ≤ 4096 := fuFin_len ok last 4096
theorem fuK_in {m : Mz} (ok : MzOk m) (last : Bool) : ∀ k y, y ∈ (fuK m last k).1 ↔ y ∈ mem (fuK m last k).2
  | 0, y => by
    show y ∈ [0] ↔ y ∈ mem 1
    rw [show mem 1 = [0] from by decide]
  | k + 1, y => by
    have ih := fuK_in ok last k y
    have hl := fuK_lt ok last k
    show y ∈ (fuS m last _).1 ↔ y ∈ mem (fuS m last _).2
    by_cases h : nexN m (fuK m last k).2 = 0
    · rw [fuS, if_pos h]; exact ih
    · obtain ⟨i, he, _, h12, _, hb⟩ := pick_next ok last hl h
      rw [fuS, if_neg h, he, List.mem_append, ih, in_mem, in_mem]
      constructor
      · rintro (⟨j, h1, h2, rfl⟩ | h3)
        · exact ⟨j, h1, by rw [setN_bit, h2]; rfl, rfl⟩
        · have : y = i := by simpa using h3
          exact ⟨i, by omega, by rw [setN_bit]; simp, this⟩
      · rintro ⟨j, h1, h2, rfl⟩
        rw [setN_bit, Bool.or_eq_true] at h2
        rcases h2 with h2 | h2
        · exact .inl ⟨j, h1, h2, rfl⟩
        · right; have : i = j := by simpa using h2
          simp [this]
/-! What is closed -/
def SubN (a b : Nat) : Prop := ∀ i, a.testBit i = true → b.testBit i = true
theorem SubN.antisymm {a b : Nat} (h : SubN a b) (k : SubN b a) : a = b := by
  apply Nat.eq_of_testBit_eq
  intro i
  rw [Bool.eq_iff_iff]
  exact ⟨h i, k i⟩
theorem subB_mono {o s t : Nat} (h : SubN s t) (k : subB o s = true) : subB o t = true := by
  rw [subB_iff] at *
  exact fun i hi => h i (k i hi)
theorem opnB_mono {m : Mz} {x y : Int} {s t : Nat} (h : SubN s t) (k : opnB m x y s = true) : opnB m x y t = true := by
  obtain ⟨j, hj, k⟩ := opnB_iff.1 k
  refine opnB_iff.2 ⟨j, hj, ?_⟩
  unfold opnD at *
  rw [Bool.and_eq_true] at *
  exact ⟨k.1, subB_mono h k.2⟩
theorem keysL_mono {m : Mz} {l l' : List Int} (h : ∀ x ∈ l, x ∈ l') : SubN (keysL m l) (keysL m l') := by
  intro i hi
  rw [keysL_bit, List.any_eq_true] at *
  obtain ⟨x, hx, hi⟩ := hi
  exact ⟨x, h x hx, hi⟩
theorem mem_mono {a b : Nat} (h : SubN a b) : ∀ x ∈ mem a, x ∈ mem b := by
  intro x hx
  obtain ⟨i, h1, h2, rfl⟩ := (in_mem a x).1 hx
  exact (in_mem b _).2 ⟨i, h1, h i h2, rfl⟩
theorem nex_mono {m : Mz} (ok : MzOk m) {a c : Nat} (ha : a < 4096) (hc : c < 4096) (h : SubN a c) (hz : nexN m c = 0) : SubN (nexN m a) c := by
  intro y hy
  obtain ⟨_, x, hx, ho⟩ := (nexN_bit ok ha y).1 hy
  cases hcy : c.testBit y
  · have : (nexN m c).testBit y = true := (nexN_bit ok hc y).2 ⟨hcy, x, h x hx, opnB_mono (keysL_mono (mem_mono h)) ho⟩
    rw [hz] at this; simp at this
  · rfl
theorem itL_sub {m : Mz} (ok : MzOk m) (code : Nat) {c : Nat} (hc : c < 4096) (h0 : c.testBit 0 = true) (hz : nexN m c = 0) : ∀ k, SubN (itL m code k) c
  | 0 => by
    intro i hi
    have hi : (code &&& 1).testBit i = true := hi
    rw [Nat.testBit_and, Bool.and_eq_true] at hi
    have : i < 1 := bit_lt (n := 1) (by decide) hi.2
    obtain rfl : i = 0 := by omega
    exact h0
  | k + 1 => by
    intro i hi
    have hi : (itL m code k ||| (nexN m (itL m code k) &&& code)).testBit i = true := hi
    rw [Nat.testBit_or, Nat.testBit_and, Bool.or_eq_true, Bool.and_eq_true] at hi
    rcases hi with hi | hi
    · exact itL_sub ok code hc h0 hz k i hi
    · exact nex_mono ok (itL_lt ok code k) hc (itL_sub ok code hc h0 hz k) hz i hi.1
theorem fuK_sub {m : Mz} (ok : MzOk m) (last : Bool) {c : Nat} (hc : c < 4096) (h0 : c.testBit 0 = true) (hz : nexN m c = 0) : ∀ k, SubN (fuK m last k).2 c
  | 0 => by
    intro i hi
    have hi : Nat.testBit 1 i = true := hi
    have : i < 1 := bit_lt (n := 1) (by decide) hi
    obtain rfl : i = 0 := by omega
    exact h0
  | k + 1 => by
    have ih := fuK_sub ok last hc h0 hz k
    have hl := fuK_lt ok last k
    show SubN (fuS m last _).2 c
    by_cases h : nexN m (fuK m last k).2 = 0
    · rw [fuS, if_pos h]; exact ih
    · obtain ⟨i, he, hn, h12, _, hb⟩ := pick_next ok last hl h
      rw [fuS, if_neg h, he]
      intro j hj
      have hj : (setN (fuK m last k).2 (i : Int)).testBit j = true := hj
      rw [setN_bit, Bool.or_eq_true] at hj
      rcases hj with hj | hj
      · exact ih j hj
      · have : i = j := by simpa using hj
        subst this
        exact nex_mono ok hl hc ih hz i hn
theorem largN_fix {m : Mz} (ok : MzOk m) (code : Nat) : nexN m (largN m code) &&& code = 0 := by
  obtain ⟨k, hk, h⟩ := grow_fix (fun k => itL m code k) (fun k => nexN m (itL m code k) &&& code = 0) (fun k => by
    by_cases h : nexN m (itL m code k) &&& code = 0
    · exact .inl h
    · exact .inr (lgN_grows h)) (itL_lt ok code)
  have e : largN m code = itL m code k := by unfold largN; rw [show 4096 = k + (4096 - k) from by omega, itL_end h]
  rw [e]; exact h
theorem fuK_fix {m : Mz} (ok : MzOk m) (last : Bool) : nexN m (fuK m last 4096).2 = 0 := by
  obtain ⟨k, hk, h⟩ := grow_fix (fun k => (fuK m last k).2) (fun k => nexN m (fuK m last k).2 = 0) (fun k => by
    by_cases h : nexN m (fuK m last k).2 = 0
    · exact .inl h
    · exact .inr (fu_grows ok last (fuK_lt ok last k) h)) (fuK_lt ok last)
  rw [show 4096 = k + (4096 - k) from by omega, fuK_end h]; exact h
theorem largN_lt {m : Mz} (ok : MzOk m) (code : Nat) : largN m code < 4096 := itL_lt ok code _
theorem itL_zero {m : Mz} {code : Nat} (h : code.testBit 0 = true) : ∀ k, (itL m code k).testBit 0 = true
  | 0 => by show (code &&& 1).testBit 0 = true; rw [Nat.testBit_and, h]; rfl
  | k + 1 => by
    show (itL m code k ||| _).testBit 0 = true
    rw [Nat.testBit_or, itL_zero h k]; rfl
theorem fuK_zero {m : Mz} (ok : MzOk m) (last : Bool) (k : Nat) : (fuK m last k).2.testBit 0 = true := by
  have h : ∀ k, (0 : Int) ∈ (fuK m last k).1 := by
    intro k
    induction k with
    | zero => show (0 : Int) ∈ [0]; simp
    | succ k ih =>
      show (0 : Int) ∈ (fuS m last _).1
      unfold fuS
      split
      · exact ih
      · exact List.mem_append_left _ ih
  have := (fuK_in ok last k 0).1 (h k)
  obtain ⟨i, _, h2, h3⟩ := (in_mem _ _).1 this
  have : i = 0 := by omega
  rwa [this] at h2
def allN (m : Mz) : Nat := 2 ^ m.size.toNat - 1
theorem allN_bit (m : Mz) (i : Nat) : (allN m).testBit i = decide (i < m.size.toNat) := by unfold allN; rw [Nat.testBit_two_pow_sub_one]
theorem allN_lt {m : Mz} (ok : MzOk m) : allN m < 4096 := by
  refine lt_of_bits (n := 12) fun i hi => ?_
  rw [allN_bit] at hi
  have := ok.s2
  have : i < m.size.toNat := by simpa using hi
  omega
/-- All that can be entered is the nodes of each complete entry order. -/
theorem entered_eq {m : Mz} (ok : MzOk m) (last : Bool) : largN m (allN m) = (fuK m last 4096).2 := by
  have h0 : (allN m).testBit 0 = true := by rw [allN_bit]; have := ok.s1; simp; omega
  have hz : nexN m (largN m (allN m)) = 0 := by
    apply Nat.eq_of_testBit_eq
    intro i
    rw [Nat.zero_testBit]
    cases hi : (nexN m (largN m (allN m))).testBit i
    · rfl
    · have h1 := nexN_size ok (largN_lt ok _) hi
      have := congrArg (fun z => Nat.testBit z i) (largN_fix ok (allN m))
      simp only [Nat.testBit_and, hi, allN_bit, Nat.zero_testBit, Bool.true_and] at this
      simp at this; omega
  exact SubN.antisymm (itL_sub ok _ (fuK_lt ok last _) (fuK_zero ok last _) (fuK_fix ok last) _) (fuK_sub ok last (largN_lt ok _) (itL_zero h0 _) hz _)
end Go.KD
