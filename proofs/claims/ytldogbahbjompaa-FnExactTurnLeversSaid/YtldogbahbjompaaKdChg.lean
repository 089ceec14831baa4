/- Worlds that differ in some blocks alone; what the marks of mazes and works do. -/
import Derived.Test.YtldogbahbjompaaKdLaws2
set_option linter.unusedVariables false
set_option linter.unusedSimpArgs false
namespace Go.KD
open Go.RowKit
/-- Of the blocks that were there only those in [lo, hi) may have changed. -/
structure Chg (lo hi : Nat) (w w' : World) : Prop where
  os : w'.os = w.os
  tape : w'.tape = w.tape
  output : w'.output = w.output
  size : w.heap.size ≤ w'.heap.size
  block : ∀ k, k < w.heap.size → (k < lo ∨ hi ≤ k) → w'.heap[k]? = w.heap[k]?
theorem Chg.trans {lo hi : Nat} {a b c : World} (h : Chg lo hi a b) (k : Chg lo hi b c) : Chg lo hi a c :=
  ⟨k.os.trans h.os, k.tape.trans h.tape, k.output.trans h.output, Nat.le_trans h.size k.size, fun i hi hk => (k.block i (Nat.lt_of_lt_of_le hi h.size) hk).trans (h.block i hi hk)⟩
theorem Chg.of_below {lo hi : Nat} {w w' : World} (h : Below w.heap.size w w') : Chg lo hi w w' := ⟨h.os, h.tape, h.output, h.size, fun k hk _ => h.block k hk⟩
theorem Chg.of_grown {lo hi : Nat} {w w' : World} {row : Option Nat} (h : w.grownBy w' row) (hr : ∀ g, row = some g → lo ≤ g ∧ g < hi) : Chg lo hi w w' :=
  ⟨h.os, h.tape, h.output, h.size, fun k hk hd => h.block k hk (fun e => by have := hr k e.symm; omega)⟩
theorem Chg.below {lo hi B : Nat} {w w' : World} (h : Chg lo hi w w') (hB : B ≤ lo) (hs : B ≤ w.heap.size) : Below B w w' := ⟨h.os, h.tape, h.output, h.size, fun k hk => h.block k (by omega) (.inl (by omega))⟩
theorem Chg.cell {lo hi : Nat} {w w' : World} (h : Chg lo hi w w') {p : Addr} (hp : p.block < w.heap.size) (hd : p.block < lo ∨ hi ≤ p.block) : w'.cell? p = w.cell? p := World.cell?_of_block (w := w) (h.block p.block hp hd)
theorem Own.chg {lo hi lo' hi' size n : Nat} {w w' : World} {e : TypeId} {v : Value} {xs : List Value} (h : Own lo hi w e size v n xs) (hc : Chg lo' hi' w w') (hd : hi ≤ lo' ∨ hi' ≤ lo) : Own lo hi w' e size v n xs := by
  obtain ⟨⟨hl, h1⟩, ht⟩ := h
  refine ⟨⟨hl, ?_⟩, ht⟩
  rcases h1 with h1 | ⟨g, cap, cur, hv, hg, hh, r⟩
  · exact .inl h1
  · refine .inr ⟨g, cap, cur, hv, hg, ?_, r⟩
    have := ht g (by rw [hv]; rfl)
    rw [hc.block g ?_ (by omega)]; exact hh
    rcases Nat.lt_or_ge g w.heap.size with h | h
    · exact h
    · rw [Array.getElem?_eq_none h] at hh; cases hh
theorem Own.grown_ne {lo hi size n : Nat} {w w' : World} {row : Option Nat} {e : TypeId} {v : Value} {xs : List Value} (h : Own lo hi w e size v n xs) (hb : w.grownBy w' row) (hr : ∀ g, v.ownBlock = some g → row ≠ some g) : Own lo hi w' e size v n xs := by
  obtain ⟨⟨hl, h1⟩, ht⟩ := h
  refine ⟨⟨hl, ?_⟩, ht⟩
  rcases h1 with h1 | ⟨g, cap, cur, hv, hg, hh, r⟩
  · exact .inl h1
  · refine .inr ⟨g, cap, cur, hv, hg, ?_, r⟩
    rw [hb.block g ?_ (fun e => hr g (by rw [hv]; rfl) e.symm)]; exact hh
    rcases Nat.lt_or_ge g w.heap.size with h | h
    · exact h
    · rw [Array.getElem?_eq_none h] at hh; cases hh
theorem Own.blocks {lo hi size n : Nat} {w : World} {e : TypeId} {v : Value} {xs : List Value} (h : Own lo hi w e size v n xs) : ∀ g, v.ownBlock = some g → lo ≤ g ∧ g < hi := fun g hg => ⟨own_block_lo h.row hg, h.top g hg⟩
theorem Own.slice {lo hi size n : Nat} {w : World} {e : TypeId} {v : Value} {xs : List Value} (h : Own lo hi w e size v n xs) : ∃ a cap, v = .slice a n cap := own_slice h.row
theorem ic_of' {lo hi n cap : Nat} {w : World} {e : TypeId} {a : Option Addr} {l : List Int} (h : Own lo hi w e 1 (.slice a n cap) n (ints l)) (hn : n = l.length) : IC w a l := by
  subst hn
  obtain ⟨a', c', hv, _, hi⟩ := h.ic
  cases hv; exact hi
theorem ic_of {lo hi cap : Nat} {w : World} {e : TypeId} {a : Option Addr} {l : List Int} (h : Own lo hi w e 1 (.slice a l.length cap) l.length (ints l)) : IC w a l := ic_of' h rfl
theorem ic_marks {lo hi n cap : Nat} {k : Int} {w : World} {e : TypeId} {a : Option Addr} (h : Own lo hi w e 1 (.slice a n cap) n (ints (marks n k))) : IC w a (marks n k) := ic_of' h (length_marks n k).symm
end Go.KD
namespace Go.Proofs.Ytldogbahbjompaa
open Go.RowKit Go.KD
attribute [local go_sem] later_cell later_frozen
set_option maxHeartbeats 1000000 in
theorem markMaze_c (lo hi : Nat) (v : Value) (m : Mz) (k0 : Int) (w : World) (hm : MzOwn lo hi w v m) (hhi : hi ≤ w.heap.size) (nd : m.doors.length ≤ 1048576) (nk : m.keys.length ≤ 1048576) (h0 : 0 ≤ k0) (h1 : k0 ≤ 100000000) : Calls Try.prog 36 #[v, .int .i64 k0] w fun e w' =>
    e = .returned (.int .i64 (k0 + (m.doors.length : Int) * 3 + m.keys.length)) ∧ Chg lo hi w w' := by
  obtain ⟨e3, e1, vd, vk, rfl, o1, o2, hap⟩ := hm
  obtain ⟨s, d, k⟩ := m
  dsimp only at *
  obtain ⟨ad, cd, rfl⟩ := o1.slice
  obtain ⟨ak, ck, rfl⟩ := o2.slice
  have HO1 := Lib.hid (o1.later ((Below.refl w.heap.size w).alloc (Nat.le_refl _) (.cells #[.int .i64 s, .slice ad d.length cd, .slice ak k.length ck] 29)) hhi)
  have HO2 := Lib.hid (o2.later ((Below.refl w.heap.size w).alloc (Nat.le_refl _) (.cells #[.int .i64 s, .slice ad d.length cd, .slice ak k.length ck] 29)) hhi)
  have HA := Lib.hid hap
  clear o1 o2 hap
  go_enter Try.func36, Try.ntmps36
  go_wp2_with fail
  refine (markIntA3S_c lo _ _ e3 _ d _ _ rfl HO1.out.row nd h0 (by omega)).mono ?_
  rintro e w1 ⟨rfl, hr1, hg1⟩
  have HC1 : Hid (Chg lo hi (w.alloc (.cells #[.int .i64 s, .slice ad d.length cd, .slice ak k.length ck] 29)) w1) := Chg.of_grown hg1 HO1.out.blocks
  have q2 : w1.cell? ⟨w.heap.size, 2, none⟩ = some (.slice ak k.length ck) := by rw [HC1.out.cell (p := ⟨w.heap.size, 2, none⟩) (by simp) (.inr hhi)]; simp [go_sem]
  have HO3 := Lib.hid (HO2.out.grown_ne hg1 (fun g hg e => HA.out g e hg))
  clear hr1 hg1
  go_wp2_with fail
  refine (markIntS_c lo _ _ e1 _ k _ _ rfl HO3.out.row nk (by omega) (by omega)).mono ?_
  rintro e w2 ⟨rfl, hr2, hg2⟩
  go_wp2_with fail
  go_ret
  exact ⟨rfl, (Chg.of_below ((Below.refl w.heap.size w).alloc (Nat.le_refl _) _)).trans (HC1.out.trans (Chg.of_grown hg2 HO3.out.blocks))⟩
end Go.Proofs.Ytldogbahbjompaa
