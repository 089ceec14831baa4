/- The cursor of the draws: plain words, and next, pick, one, among. -/
import Derived.Test.YtmilpahggceemaaKdChg
import Derived.Test.YtmilpahggceemaaKdOpen
import Derived.Test.YtmilpahggceemaaKdList
import Derived.Lib.VarintBits
import Derived.Deep.RegionHeld3
import Derived.Deep.DeepCutAuto
set_option linter.unusedVariables false
set_option linter.unusedSimpArgs false
namespace Go.KD
open Go.RowKit Go.ChangeShapes Go.WideShapes Go.ChangeAt Go.Joins Go.Deep
/-- Bytes that read. -/
def BC (w : World) (a : Option Addr) (n : Nat) : Prop :=
  ∀ k, k < n → ∃ b off, ∃ x : Nat, a = some ⟨b, off, none⟩ ∧ b < w.heap.size ∧ x < 256 ∧ w.cell? ⟨b, off + k, none⟩ = some (.int .u8 x)
theorem BC.later {w w' : World} {a : Option Addr} {n : Nat} (h : BC w a n) (hb : Below w.heap.size w w') : BC w' a n := by
  intro k hk
  obtain ⟨b, off, x, ha, hbs, hx, c0⟩ := h k hk
  obtain ⟨hc, hf⟩ := bcell hb
  exact ⟨b, off, x, ha, by have := hb.size; omega, hx, (hc _ _ hbs).trans c0⟩
theorem open_bc {H : Type} {enc : TypeId × Value → H} {P : Program} {w : World} {base : Nat} {held : Bool} {t e : TypeId} {fuel : Nat} {v : Value} {x : DataW H × List MemPlace} (ht : P.underlying t = some (.slice e)) (he : P.underlying e = some (.int .u8)) (hc : P.cellsOf e = 1)
    (h : DataW.trod enc P w base (fun _ => true) held fuel t [v] = some x) :
    ∃ a cap, ∃ n : Nat, v = .slice a n cap ∧ n ≤ maxLen ∧ BC w a n := by
  rcases open_ints ht he hc h with ⟨hcs, _⟩ | ⟨a, len, cap, zs, hcs, _, hl, hm, hz, _, hcell, hwf⟩
  · simp only [List.cons.injEq, and_true] at hcs
    exact ⟨none, 0, 0, hcs, by unfold maxLen; simp, fun k hk => absurd hk (Nat.not_lt_zero k)⟩
  · simp only [List.cons.injEq, and_true] at hcs
    simp only [if_true] at hz
    refine ⟨some a, cap, len, hcs, by omega, fun k hk => ?_⟩
    have hk' : k < zs.length := by omega
    have c := hcell k hk'
    have hsp : (a.add k).spot = none := World.cell?_spot c
    have hbl := World.block_lt_of_cell? w _ c
    have ha0 := World.cell?_spot (hcell 0 (by omega))
    have ha : a.spot = none := by unfold Addr.add at ha0; rw [if_pos rfl] at ha0; exact ha0
    obtain ⟨b, off, sp⟩ := a
    simp only at ha; subst ha
    rw [add_at (a := ⟨b, off, none⟩) rfl] at c hbl
    have hw := hwf (zs[k]) (List.getElem_mem hk')
    have hw1 : IntKind.u8.min ≤ zs[k] ∧ zs[k] ≤ IntKind.u8.max := by simpa [Lit.wf] using hw
    have hw2 : 0 ≤ zs[k] ∧ zs[k] ≤ 255 := ⟨Int.le_trans (by decide) hw1.1, Int.le_trans hw1.2 (by decide)⟩
    refine ⟨b, off, zs[k].toNat, rfl, hbl, by omega, ?_⟩
    rw [c, List.getD_eq_getElem?_getD, List.getElem?_eq_getElem hk', Option.getD_some, Int.toNat_of_nonneg hw2.1]
/-- A cursor in block c, before place n. -/
structure Cu (c n : Nat) (w : World) : Prop where
  ex : ∃ a, ∃ ln cp p : Nat, ∃ s : Int, w.cell? ⟨c, 0, none⟩ = some (.slice a ln cp) ∧ w.cell? ⟨c, 1, none⟩ = some (.int .i64 p) ∧ w.cell? ⟨c, 2, none⟩ = some (.int .u64 s) ∧ p ≤ n ∧ ln ≤ 65536 ∧
    ∀ k, k < ln → ∃ b off, ∃ x : Nat, a = some ⟨b, off, none⟩ ∧ b < c ∧ x < 256 ∧ w.cell? ⟨b, off + k, none⟩ = some (.int .u8 x)
  fz : ∀ o, o < 3 → w.frozen? ⟨c, o, none⟩ = false
  lt : c < w.heap.size
theorem Cu.mono {c n n' : Nat} {w : World} (h : Cu c n w) (hn : n ≤ n') : Cu c n' w := by
  obtain ⟨⟨a, ln, cp, p, s, h0, h1, h2, h3, h4⟩, hf, hl⟩ := h
  exact ⟨⟨a, ln, cp, p, s, h0, h1, h2, by omega, h4⟩, hf, hl⟩
theorem Cu.same {c n : Nat} {w w' : World} (h : Cu c n w) (hs : w.heap.size ≤ w'.heap.size) (hb : ∀ k, k ≤ c → w'.heap[k]? = w.heap[k]?) : Cu c n w' := by
  obtain ⟨⟨a, ln, cp, p, s, h0, h1, h2, h3, h4, h5⟩, hf, hl⟩ := h
  have hc : ∀ b o, b ≤ c → w'.cell? ⟨b, o, none⟩ = w.cell? ⟨b, o, none⟩ := fun b o hbc => World.cell?_of_block (hb b hbc)
  refine ⟨⟨a, ln, cp, p, s, (hc _ _ (Nat.le_refl _)).trans h0, (hc _ _ (Nat.le_refl _)).trans h1, (hc _ _ (Nat.le_refl _)).trans h2, h3, h4, fun k hk => ?_⟩, fun o ho => ?_, by omega⟩
  · obtain ⟨b, off, x, e1, e2, e3, e4⟩ := h5 k hk
    exact ⟨b, off, x, e1, e2, e3, (hc _ _ (by omega)).trans e4⟩
  · have := hf o ho
    unfold World.frozen? at *
    simp only at *
    rw [hb c (Nat.le_refl _)]; exact this
theorem Cu.later {c n B : Nat} {w w' : World} (h : Cu c n w) (hb : Below B w w') (hc : c < B) : Cu c n w' := h.same hb.size (fun k hk => hb.block k (by omega))
theorem Cu.chg {c n lo hi : Nat} {w w' : World} (h : Cu c n w) (hb : Chg lo hi w w') (hc : c < lo) : Cu c n w' := h.same hb.size (fun k hk => hb.block k (by have := h.lt; omega) (.inl (by omega)))
theorem Chg.refl (lo hi : Nat) (w : World) : Chg lo hi w w := ⟨rfl, rfl, rfl, Nat.le_refl _, fun _ _ _ => rfl⟩
theorem Chg.then_below {lo hi B : Nat} {w w1 w2 : World} (h : Chg lo hi w w1) (k : Below B w1 w2) (hB : w1.heap.size ≤ B) : Chg lo hi w w2 := h.trans (Chg.of_below (k.mono hB))
theorem Chg.alloc {lo hi : Nat} {w w1 : World} (h : Chg lo hi w w1) (o : Obj) : Chg lo hi w (w1.alloc o) := h.then_below ((Below.refl _ _).alloc (Nat.le_refl _) o) (Nat.le_refl _)
theorem Chg.drew {lo hi : Nat} {w w1 : World} (h : Chg lo hi w w1) : Chg lo hi w w1.drew := h.then_below (Below.refl _ _).drew (Nat.le_refl _)
theorem Chg.drewN {lo hi : Nat} {w w1 : World} (h : Chg lo hi w w1) (n : Nat) : Chg lo hi w (w1.drewN n) := h.then_below (below_drewN (Below.refl _ _) n) (Nat.le_refl _)
theorem Chg.setCell {lo hi : Nat} {w w1 : World} (h : Chg lo hi w w1) {a : Addr} (h1 : lo ≤ a.block) (h2 : a.block < hi) (u : Value) : Chg lo hi w (w1.setCell a u) := h.trans (Chg.of_grown (grown_setCell w1 a u) (fun g hg => by cases hg; exact ⟨h1, h2⟩))
theorem Chg.mono {lo hi lo' hi' : Nat} {w w' : World} (h : Chg lo hi w w') (h1 : lo' ≤ lo) (h2 : hi ≤ hi') : Chg lo' hi' w w' := ⟨h.os, h.tape, h.output, h.size, fun k hk hd => h.block k hk (by omega)⟩
theorem Chg.new {lo hi lo' hi' : Nat} {w w' w2 : World} (h : Chg lo hi w w') (h1 : w.heap.size ≤ lo) : Below w.heap.size w w' := h.below h1 (Nat.le_refl _)
/-- A new cursor. -/
theorem Cu.new {w w' : World} {c n : Nat} {a : Option Addr} {ln cp p : Nat} {s : Int} (hc : Cu c n w) (hch : Chg c (c + 1) w w') (h0 : w'.cell? ⟨c, 0, none⟩ = some (.slice a ln cp)) (h1 : w'.cell? ⟨c, 1, none⟩ = some (.int .i64 p)) (h2 : w'.cell? ⟨c, 2, none⟩ = some (.int .u64 s))
    (h3 : p ≤ n + 1) (h4 : ln ≤ 65536) (h5 : ∀ k, k < ln → ∃ b off, ∃ x : Nat, a = some ⟨b, off, none⟩ ∧ b < c ∧ x < 256 ∧ w.cell? ⟨b, off + k, none⟩ = some (.int .u8 x)) (hf : ∀ o, o < 3 → w'.frozen? ⟨c, o, none⟩ = false) : Cu c (n + 1) w' := by
  refine ⟨⟨a, ln, cp, p, s, h0, h1, h2, h3, h4, fun k hk => ?_⟩, hf, Nat.lt_of_lt_of_le hc.lt hch.size⟩
  obtain ⟨b, off, x, e1, e2, e3, e4⟩ := h5 k hk
  exact ⟨b, off, x, e1, e2, e3, by rw [hch.cell (p := ⟨b, off + k, none⟩) (Nat.lt_trans e2 hc.lt) (.inl e2)]; exact e4⟩
/-- What a draw of a number gives. -/
def NatP (c n k : Nat) (w : World) (e : Ending) (w' : World) : Prop := ∃ r : Nat, e = .returned (.int .i64 r) ∧ r < k ∧ Chg c (c + 1) w w' ∧ Cu c n w'
def BoolP (c n : Nat) (w : World) (e : Ending) (w' : World) : Prop := ∃ b : Bool, e = .returned (.bool b) ∧ Chg c (c + 1) w w' ∧ Cu c n w'
def IntP (c n : Nat) (l : List Int) (w : World) (e : Ending) (w' : World) : Prop := ∃ x : Int, e = .returned (.int .i64 x) ∧ x ∈ l ∧ Chg c (c + 1) w w' ∧ Cu c n w'
theorem Cu.step {c n ln cp p k j : Nat} {a : Option Addr} {s : Int} {w : World} (hc : Cu c n w) (h0 : w.cell? ⟨c, 0, none⟩ = some (.slice a ln cp)) (f0 : w.cell? ⟨c, 1, none⟩ = some (.int .i64 p)) (f1 : ∃ u : Int, w.cell? ⟨c, 2, none⟩ = some (.int .u64 u)) (h3 : p ≤ n) (h4 : ln ≤ 65536)
    (h5 : ∀ k, k < ln → ∃ b off, ∃ x : Nat, a = some ⟨b, off, none⟩ ∧ b < c ∧ x < 256 ∧ w.cell? ⟨b, off + k, none⟩ = some (.int .u8 x)) :
    Chg c (c + 1) w ((((w.drewN k).setCell ⟨c, 1, none⟩ (.int .i64 ((p : Int) + 1))).setCell ⟨c, 2, none⟩ (.int .u64 s)).drewN j) ∧ Cu c (n + 1) ((((w.drewN k).setCell ⟨c, 1, none⟩ (.int .i64 ((p : Int) + 1))).setCell ⟨c, 2, none⟩ (.int .u64 s)).drewN j) := by
  obtain ⟨u, f1⟩ := f1
  have hf := hc.fz
  have hch : Chg c (c + 1) w ((((w.drewN k).setCell ⟨c, 1, none⟩ (.int .i64 ((p : Int) + 1))).setCell ⟨c, 2, none⟩ (.int .u64 s)).drewN j) := by
    repeat (first | exact Chg.refl _ _ _ | apply Chg.drewN | apply Chg.drew | (refine Chg.setCell ?_ (by simp) (by simp) _))
  refine ⟨hch, Cu.new (p := p + 1) (a := a) (ln := ln) (cp := cp) (s := s) hc hch ?_ ?_ ?_ (by omega) h4 h5 fun o ho => ?_⟩
  · simp [go_sem, h0]
  · simp [go_sem, f0]
  · simp [go_sem, f1]
  · have := hf o ho
    simp [go_sem, this]
theorem low8 (t : Int) : ∃ r : Nat, r < 256 ∧ wrap64 (bits .and .u64 (IntKind.u64.wrap t / 1099511627776) 255) = (r : Int) := by
  have h0 := IntKind.wrap_u64 t
  have h1 : 0 ≤ IntKind.u64.wrap t / 1099511627776 ∧ IntKind.u64.wrap t / 1099511627776 < 18446744073709551616 := by rw [h0]; omega
  have h2 := bits_mask .u64 64 (by decide) Go.wraps_u64 8 (by decide) _ h1.1 h1.2
  have h2 : bits .and .u64 (IntKind.u64.wrap t / 1099511627776) 255 = (IntKind.u64.wrap t / 1099511627776) % 256 := h2
  refine ⟨((IntKind.u64.wrap t / 1099511627776) % 256).toNat, by omega, ?_⟩
  rw [h2]
  unfold wrap64
  omega
end Go.KD
namespace Go.Proofs.Ytmilpahggceemaa
open Go.RowKit Go.KD
attribute [local go_sem] later_cell later_frozen
set_option maxRecDepth 100000 in
set_option maxHeartbeats 4000000 in
theorem next_c (c n : Nat) (hn : n ≤ 1000000) (w : World) (h : Cu c n w) : Calls Try.prog 269 #[.pointer (some ⟨c, 0, none⟩)] w (NatP c (n + 1) 256 w) := by
  have HC := Lib.hid h
  obtain ⟨⟨a, ln, cp, p, s, h0, h1, h2, h3, h4, h5⟩, hf, hl⟩ := h
  have f1 := hf 1 (by omega)
  have f2 := hf 2 (by omega)
  have H5 := Lib.hid h5
  have HF := Lib.hid hf
  clear h5 hf
  by_cases hlt : p < ln
  · obtain ⟨b, off, x, rfl, hb, hx, e0⟩ := H5.out p hlt
    have hp0 : (0 : Int) ≤ (p : Int) := by omega
    have hpI : (p : Int) < (ln : Int) := by omega
    go_enter Try.func269, Try.ntmps269
    go_wp2
    go_quiet (fail)
    go_wp2
    go_quiet (fail)
    go_wp2
    go_quiet (fail)
    go_wp2
    go_ret
    exact ⟨x, rfl, hx, HC.out.step h0 h1 ⟨s, h2⟩ h3 h4 H5.out⟩
  · have hpI : ¬ ((p : Int) < (ln : Int)) := by omega
    go_enter Try.func269, Try.ntmps269
    go_wp2
    go_quiet (fail)
    go_wp2
    go_quiet (fail)
    go_wp2
    go_ret
    obtain ⟨r, hr, he⟩ := low8 (IntKind.u64.wrap (IntKind.u64.wrap (s * 6364136223846793005)) + 462197)
    exact ⟨r, ret_int he, hr, HC.out.step h0 h1 ⟨s, h2⟩ h3 h4 H5.out⟩
set_option maxHeartbeats 4000000 in
theorem pick_c (c n k : Nat) (hk0 : 0 < k) (hk : k ≤ 10000) (hn : n ≤ 900000) (w : World) (h : Cu c n w) : Calls Try.prog 144 #[.pointer (some ⟨c, 0, none⟩), .int .i64 k] w (NatP c (n + 2) k w) := by
  have HC := Lib.hid h
  clear h
  by_cases h1 : k ≤ 1
  · obtain rfl : k = 1 := by omega
    go_enter Try.func144, Try.ntmps144
    go_wp2
    go_ret
    exact ⟨0, rfl, by omega, Chg.refl _ _ _, HC.out.mono (by omega)⟩
  · have h1I : ¬ ((k : Int) ≤ 1) := by omega
    by_cases h2 : k ≤ 200
    · have h2I : ¬ ((200 : Int) < (k : Int)) := by omega
      go_enter Try.func144, Try.ntmps144
      go_wp2_with (go_at_call 269; refine (next_c c n (by omega) _ HC.out).mono ?_; rintro e w1 ⟨r, rfl, hr, hc1, hu1⟩)
      go_ret
      exact ⟨r % k, rfl, Nat.mod_lt _ hk0, hc1, hu1.mono (by omega)⟩
    · have h2I : (200 : Int) < (k : Int) := by omega
      go_enter Try.func144, Try.ntmps144
      go_wp2_with fail
      refine (next_c c n (by omega) _ HC.out).mono ?_
      rintro e w1 ⟨r, rfl, hr, hc1, hu1⟩
      go_wp2_with fail
      refine (next_c c (n + 1) (by omega) _ hu1).mono ?_
      rintro e w2 ⟨r2, rfl, hr2, hc2, hu2⟩
      go_wp2_with fail
      go_ret
      exact ⟨(r * 256 + r2) % k, ret_int (by simp), Nat.mod_lt _ hk0, hc1.trans hc2, hu2⟩
theorem one_c (c n k : Nat) (hk0 : 0 < k) (hk : k ≤ 10000) (hn : n ≤ 900000) (w : World) (h : Cu c n w) : Calls Try.prog 184 #[.pointer (some ⟨c, 0, none⟩), .int .i64 k] w (BoolP c (n + 2) w) := by
  have HC := Lib.hid h
  clear h
  go_enter Try.func184, Try.ntmps184
  go_wp2_with (go_at_call 144; refine (pick_c c n k hk0 hk hn _ HC.out).mono ?_; rintro e w1 ⟨r, rfl, hr, hc1, hu1⟩)
  go_ret
  exact ⟨_, rfl, hc1, hu1⟩
theorem among_c (c n k cap : Nat) (a : Option Addr) (l : List Int) (hk : k = l.length) (hk0 : 0 < k) (hk1 : k ≤ 10000) (hn : n ≤ 900000) (w : World) (h : Cu c n w) (hA : ∀ w', Chg c (c + 1) w w' → IC w' a l) : Calls Try.prog 261 #[.pointer (some ⟨c, 0, none⟩), .slice a k cap] w (IntP c (n + 2) l w) := by
  have HC := Lib.hid h
  have HK := Lib.hid hk
  have HA := Lib.hid hA
  clear h hA hk
  go_enter Try.func261, Try.ntmps261
  go_wp2_with fail
  refine (pick_c c n k hk0 hk1 hn _ HC.out).mono ?_
  rintro e w1 ⟨r, rfl, hr, hc1, hu1⟩
  have hr' : r < l.length := by rw [← HK.out]; exact hr
  obtain ⟨b, off, x, rfl, HX, hbs, e0⟩ := (HA.out w1 hc1).at r hr'
  have hrI : (r : Int) < (k : Int) := by omega
  go_wp2_with fail
  go_ret
  exact ⟨x, rfl, by rw [← HX.out, getElem!_pos l r hr']; exact List.getElem_mem hr', hc1, hu1⟩
end Go.Proofs.Ytmilpahggceemaa
