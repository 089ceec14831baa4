/- Rows of rows of numbers as results: how they are read, compared, marked and read again. -/
import Derived.Test.YtldogbahbjompaaKdChg
set_option linter.unusedVariables false
set_option linter.unusedSimpArgs false
namespace Go.KD
open Go.RowKit
/-- The cells of a slice of slices of numbers. -/
def TbAt (W : World) (a : Option Addr) (Ls : List (List Int)) : Prop :=
  ∀ k, k < Ls.length → ∃ b off a' c', a = some ⟨b, off, none⟩ ∧ b < W.heap.size ∧ W.cell? ⟨b, off + k, none⟩ = some (.slice a' (Ls[k]!).length c') ∧ IC W a' Ls[k]!
theorem TbAt.later {w w' : World} {a : Option Addr} {Ls : List (List Int)} (h : TbAt w a Ls) (hb : Below w.heap.size w w') : TbAt w' a Ls := by
  intro k hk
  obtain ⟨b, off, a', c', ha, hbs, hc, hi⟩ := h k hk
  exact ⟨b, off, a', c', ha, Nat.lt_of_lt_of_le hbs hb.size, (hb.cell (p := ⟨b, off + k, none⟩) hbs).trans hc, hi.later hb⟩
/-- Rows that lie in blocks of their own, in [lo, hi). -/
structure TbOwn (lo hi : Nat) (W : World) (eS eI : TypeId) (v : Value) (n : Nat) (vs : List Value) (Ls : List (List Int)) : Prop where
  row : Own lo hi W eS 1 v n vs
  len : Ls.length = n
  each : ∀ i, i < n → Own lo hi W eI 1 vs[i]! (Ls[i]!).length (ints Ls[i]!)
  apart : ∀ i j, i < n → j < n → i ≠ j → ∀ g, (vs[i]!).ownBlock = some g → (vs[j]!).ownBlock ≠ some g
  off : ∀ i, i < n → ∀ g, (vs[i]!).ownBlock = some g → v.ownBlock ≠ some g
theorem TbOwn.later {lo hi n B : Nat} {w w' : World} {eS eI : TypeId} {v : Value} {vs : List Value} {Ls : List (List Int)} (h : TbOwn lo hi w eS eI v n vs Ls) (hb : Below B w w') (hB : hi ≤ B) : TbOwn lo hi w' eS eI v n vs Ls :=
  ⟨h.row.later hb hB, h.len, fun i hi => (h.each i hi).later hb hB, h.apart, h.off⟩
theorem TbOwn.chg {lo hi lo' hi' n : Nat} {w w' : World} {eS eI : TypeId} {v : Value} {vs : List Value} {Ls : List (List Int)} (h : TbOwn lo hi w eS eI v n vs Ls) (hc : Chg lo' hi' w w') (hd : hi ≤ lo' ∨ hi' ≤ lo) : TbOwn lo hi w' eS eI v n vs Ls :=
  ⟨h.row.chg hc hd, h.len, fun i hi => (h.each i hi).chg hc hd, h.apart, h.off⟩
theorem TbOwn.mono {lo hi lo' hi' n : Nat} {w : World} {eS eI : TypeId} {v : Value} {vs : List Value} {Ls : List (List Int)} (h : TbOwn lo hi w eS eI v n vs Ls) (h1 : lo' ≤ lo) (h2 : hi ≤ hi') : TbOwn lo' hi' w eS eI v n vs Ls :=
  ⟨h.row.mono h1 h2, h.len, fun i hi => (h.each i hi).mono h1 h2, h.apart, h.off⟩
theorem TbOwn.vlen {lo hi n : Nat} {w : World} {eS eI : TypeId} {v : Value} {vs : List Value} {Ls : List (List Int)} (h : TbOwn lo hi w eS eI v n vs Ls) : vs.length = n := by have := h.row.size; omega
theorem own_at {lo hi n cap i : Nat} {w : World} {e : TypeId} {a : Option Addr} {xs : List Value} (h : Own lo hi w e 1 (.slice a n cap) n xs) (hi : i < n) : ∃ g, a = some ⟨g, 0, none⟩ ∧ lo ≤ g ∧ g < w.heap.size ∧ w.cell? ⟨g, i, none⟩ = some xs[i]! := by
  obtain ⟨a', cap', hv, hm, hj⟩ := h.form
  cases hv
  obtain ⟨g, ha, hlo, hhi, hgs, hc, hf⟩ := hj i (by omega)
  have hl : xs.length = n := by have := h.size; omega
  exact ⟨g, ha, hlo, hgs, by rw [hc, List.getElem?_eq_getElem (by omega), getElem!_pos xs i (by omega)]⟩
theorem TbOwn.tb {lo hi n cap : Nat} {w : World} {eS eI : TypeId} {a : Option Addr} {vs : List Value} {Ls : List (List Int)} (h : TbOwn lo hi w eS eI (.slice a n cap) n vs Ls) : TbAt w a Ls := by
  intro k hk
  rw [h.len] at hk
  obtain ⟨g, ha, hlo, hgs, hc⟩ := own_at h.row hk
  obtain ⟨a', c', hv, -, hi⟩ := (h.each k hk).ic
  exact ⟨g, 0, a', c', ha, hgs, by rw [Nat.zero_add, hc, hv], hi⟩
theorem getB_l {α : Type} [Inhabited α] {l : List α} {z : α} {i : Nat} (h : i < l.length) : (l ++ [z])[i]! = l[i]! := by
  rw [getElem!_pos (l ++ [z]) i (by simp; omega), getElem!_pos l i h, List.getElem_append_left]
theorem getB_r {α : Type} [Inhabited α] {l : List α} {z : α} : (l ++ [z])[l.length]! = z := by
  rw [getElem!_pos _ _ (by simp)]; simp
theorem TbOwn.push {lo hi n : Nat} {W W' : World} {eS eI : TypeId} {g c g' c' : Nat} {vs : List Value} {Ls : List (List Int)} {v : Value} {L : List Int} (h : TbOwn lo hi W eS eI (.slice (some ⟨g, 0, none⟩) n c) n vs Ls) (hhi : hi ≤ W.heap.size) (hv : Own lo W.heap.size W eI 1 v L.length (ints L))
    (hva : ∀ i, i < n → ∀ b, (vs[i]!).ownBlock = some b → v.ownBlock ≠ some b) (hvg : v.ownBlock ≠ some g) (hown : W'.ownsRow lo eS 1 (.slice (some ⟨g', 0, none⟩) (n + 1) c') (n + 1) (vs ++ [v])) (hg : W.grownBy W' (some g)) (hat : g = g' ∨ W.heap.size ≤ g') :
    TbOwn lo W'.heap.size W' eS eI (.slice (some ⟨g', 0, none⟩) (n + 1) c') (n + 1) (vs ++ [v]) (Ls ++ [L]) := by
  have hvl := h.vlen
  have hl := h.len
  have hsz := hg.size
  have key : ∀ u M, Own lo W.heap.size W eI 1 u M.length (ints M) → u.ownBlock ≠ some g → Own lo W'.heap.size W' eI 1 u M.length (ints M) := fun u M hu hne =>
    (hu.grown_ne hg (fun b hb e => hne (by rw [hb, e]))).mono (Nat.le_refl _) hsz
  have hne : ∀ u M, Own lo W.heap.size W eI 1 u M.length (ints M) → u.ownBlock ≠ some g → ∀ b, u.ownBlock = some b → (Value.slice (some ⟨g', 0, none⟩) (n + 1) c').ownBlock ≠ some b := by
    intro u M hu hn b hb e
    have e : g' = b := by simpa [Value.ownBlock] using e
    have := hu.top b hb
    rcases hat with h1 | h1
    · exact hn (by rw [hb, h1, e])
    · omega
  have old : ∀ i, i < n → Own lo W.heap.size W eI 1 vs[i]! (Ls[i]!).length (ints Ls[i]!) := fun i hi => (h.each i hi).mono (Nat.le_refl _) hhi
  have oldg : ∀ i, i < n → (vs[i]!).ownBlock ≠ some g := fun i hi e => h.off i hi g e (by simp [Value.ownBlock])
  refine ⟨Own.of hown, by rw [List.length_append, hl]; rfl, fun i hi => ?_, fun i j hi hj hij b hb => ?_, fun i hi b hb => ?_⟩
  · by_cases e : i < n
    · rw [getB_l (by omega), getB_l (by omega)]
      exact key _ _ (old i e) (oldg i e)
    · obtain rfl : i = n := by omega
      rw [← hvl, getB_r, hvl, ← hl, getB_r]
      exact key _ _ hv hvg
  · by_cases e : i < n
    · rw [getB_l (by omega)] at hb
      by_cases e2 : j < n
      · rw [getB_l (by omega)]
        exact h.apart i j e e2 hij b hb
      · obtain rfl : j = n := by omega
        rw [← hvl, getB_r]
        exact hva i e b hb
    · obtain rfl : i = n := by omega
      rw [← hvl, getB_r] at hb
      rw [getB_l (by omega)]
      exact fun e2 => hva j (by omega) b e2 hb
  · by_cases e : i < n
    · rw [getB_l (by omega)] at hb
      exact hne _ _ (old i e) (oldg i e) b hb
    · obtain rfl : i = n := by omega
      rw [← hvl, getB_r] at hb
      exact hne _ _ hv hvg b hb
theorem TbOwn.nil {lo hi : Nat} {W : World} {eS eI : TypeId} {v : Value} (h : Own lo hi W eS 1 v 0 []) : TbOwn lo hi W eS eI v 0 [] [] :=
  ⟨h, rfl, fun i hi => by omega, fun i j hi => by omega, fun i hi => by omega⟩
theorem TbOwn.grown {lo hi n : Nat} {W W' : World} {eS eI : TypeId} {v : Value} {vs : List Value} {Ls : List (List Int)} {row : Option Nat} (h : TbOwn lo hi W eS eI v n vs Ls) (hg : W.grownBy W' row) (hr : ∀ g, row = some g → g < lo ∨ hi ≤ g) : TbOwn lo hi W' eS eI v n vs Ls :=
  ⟨h.row.grown hg hr, h.len, fun i hi => (h.each i hi).grown hg hr, h.apart, h.off⟩
/-- The length of the first k rows together. -/
def sumT (Ls : List (List Int)) : Nat → Nat
  | 0 => 0
  | k + 1 => sumT Ls k + (Ls[k]!).length
theorem sumT_le {Ls : List (List Int)} {c : Nat} (h : ∀ i, i < Ls.length → (Ls[i]!).length ≤ c) : ∀ k, k ≤ Ls.length → sumT Ls k ≤ k * c
  | 0, _ => by simp [sumT]
  | k + 1, hk => by
    have h1 := sumT_le h k (by omega)
    have h2 := h k (by omega)
    rw [sumT, Nat.succ_mul]; omega
/-- The first j rows marked. -/
def stpT (Ls : List (List Int)) (k0 : Int) (j : Nat) : List (List Int) := (List.range Ls.length).map fun i => if i < j then marks (Ls[i]!).length (k0 + (sumT Ls i : Nat)) else Ls[i]!
def marksT (Ls : List (List Int)) (k0 : Int) : List (List Int) := stpT Ls k0 Ls.length
@[simp] theorem stpT_len (Ls : List (List Int)) (k0 : Int) (j : Nat) : (stpT Ls k0 j).length = Ls.length := by simp [stpT]
@[simp] theorem marksT_len (Ls : List (List Int)) (k0 : Int) : (marksT Ls k0).length = Ls.length := by simp [marksT]
theorem stpT_at {Ls : List (List Int)} {k0 : Int} {j i : Nat} (hi : i < Ls.length) : (stpT Ls k0 j)[i]! = if i < j then marks (Ls[i]!).length (k0 + (sumT Ls i : Nat)) else Ls[i]! := by
  rw [getElem!_pos _ _ (by simpa using hi)]; simp [stpT]
theorem marksT_at {Ls : List (List Int)} {k0 : Int} {i : Nat} (hi : i < Ls.length) : (marksT Ls k0)[i]! = marks (Ls[i]!).length (k0 + (sumT Ls i : Nat)) := by rw [marksT, stpT_at hi, if_pos hi]
theorem stpT_zero (Ls : List (List Int)) (k0 : Int) : stpT Ls k0 0 = Ls := by
  apply List.ext_getElem (by simp)
  intro i h1 h2
  have := stpT_at (Ls := Ls) (k0 := k0) (j := 0) h2
  rw [if_neg (by omega), getElem!_pos (stpT Ls k0 0) i h1, getElem!_pos Ls i h2] at this
  exact this
theorem TbOwn.mark {lo hi n : Nat} {w w' : World} {eS eI : TypeId} {v : Value} {vs : List Value} {Ls : List (List Int)} {k0 : Int} {j : Nat} (hn : Ls.length = n) (h : TbOwn lo hi w eS eI v n vs (stpT Ls k0 j)) (hj : j < n) (hr : w'.ownsRow lo eI 1 vs[j]! (Ls[j]!).length (ints (marks (Ls[j]!).length (k0 + (sumT Ls j : Nat))))) (hg : w.grownBy w' (vs[j]!).ownBlock) :
    TbOwn lo hi w' eS eI v n vs (stpT Ls k0 (j + 1)) := by
  refine ⟨h.row.grown_ne hg (fun g hv e => h.off j hj g e hv), by rw [stpT_len]; exact hn, fun i hi => ?_, h.apart, h.off⟩
  rw [stpT_at (by omega)]
  by_cases e : i = j
  · subst e
    rw [if_pos (by omega), length_marks]
    exact ⟨hr, (h.each i hi).top⟩
  · have h1 := (h.each i hi).grown_ne hg (fun g hv e2 => h.apart j i hj hi (fun e3 => e e3.symm) g e2 hv)
    rw [stpT_at (by omega)] at h1
    by_cases e5 : i < j
    · rw [if_pos e5] at h1; rw [if_pos (by omega)]; exact h1
    · rw [if_neg e5] at h1; rw [if_neg (by omega)]; exact h1
end Go.KD
namespace Go.Proofs.Ytldogbahbjompaa
open Go.RowKit Go.KD
attribute [local go_sem] later_cell later_frozen
theorem eqIntSame_c (a a' : Option Addr) (cap cap' : Nat) (l : List Int) (w : World) (hA : IC w a l) (hA' : IC w a' l) (hl : l.length ≤ 1048576) : Calls Try.prog 17 #[.slice a l.length cap, .slice a' l.length cap'] w fun e w' =>
   e = .returned (.bool true) ∧ Below w.heap.size w w' := (eqIntS_c a a' cap cap' l l w hA hA' hl hl).mono fun e w' h => ⟨h.1.trans (ret_bool (by simp)), h.2⟩
set_option maxHeartbeats 1000000 in
theorem eqIntSS_c (a a' : Option Addr) (cap cap' n : Nat) (Ls : List (List Int)) (w : World) (hn : Ls.length = n) (hA : TbAt w a Ls) (hA' : TbAt w a' Ls) (hl : n ≤ 1048576) (hr : ∀ i, i < n → (Ls[i]!).length ≤ 1048576) : Calls Try.prog 27 #[.slice a n cap, .slice a' n cap'] w fun e w' =>
   e = .returned (.bool true) ∧ Below w.heap.size w w' := by
  have HN := Lib.hid hn
  have HA := Lib.hid hA
  have HA' := Lib.hid hA'
  have HR := Lib.hid hr
  have hq : ((n : Int) != (n : Int)) = false := by simp
  clear hn hA hA' hr
  go_enter Try.func27, Try.ntmps27
  go_wp2
  clear hq
  go_loopw [5] (fun i wr => ∃ k : Nat, k ≤ n ∧ i = .int .i64 k ∧ Below w.heap.size w wr) (fun i _ => n - (intOf i).toNat)
  case atStart => exact ⟨0, Nat.zero_le _, rfl, Below.refl _ _⟩
  case round =>
    obtain ⟨k, hk, rfl, hb⟩ := hrel
    have HB := Lib.hid hb
    have hsz := hb.size
    by_cases hlt : k < n
    · have hkl : k < Ls.length := by have := HN.out; omega
      obtain ⟨b, off, ar, cr, rfl, hbs, c0, hi⟩ := (HA.out.later hb) k hkl
      obtain ⟨b', off', ar', cr', rfl, hbs', d0, hi'⟩ := (HA'.out.later hb) k hkl
      have hL := HR.out k hlt
      obtain ⟨L, hLe⟩ : ∃ L, L = Ls[k]! := ⟨_, rfl⟩
      rw [← hLe] at c0 d0 hi hi' hL
      have HI := Lib.hid hi
      have HI' := Lib.hid hi'
      clear hLe hi hi' hb
      go_wp2_with fail
      refine wp_region_later (wr.heap.size) (by kernel_rfl) (by kernel_rfl) ?_
      repeat (first | go_big_quiet_skip | (go_big_quiet_want; go_big_quiet_op; (first | go_big_quiet_on | (apply Exists.intro; refine ⟨fun W => ?_, ?_⟩; (first | refine Calls.later_of (Nat.le_refl _) (eqIntSame_c _ _ _ _ L _ (HI.out.later (Subtype.property _)) (HI'.out.later (Subtype.property _)) hL)); go_big_quiet_on))))
      refine wpQuiet_nil ?_; rintro _ ⟨⟨w9, hb9⟩, rfl⟩; obtain ⟨hc9, hf9, hz9⟩ := bcell3 hb9
      go_wp2_with fail
      go_roundw
      case rel => exact ⟨k+1, by omega, by go_num, HB.out.trans (hb9.mono hsz)⟩
      case measure => simp [intOf]; omega
    · go_wp2
      go_ret
      exact ⟨rfl, HB.out⟩
set_option maxHeartbeats 2000000 in
theorem markIntSS_c (lo hi : Nat) (eS eI : TypeId) (a : Option Addr) (cap n : Nat) (vs : List Value) (Ls : List (List Int)) (k0 : Int) (w : World) (h : TbOwn lo hi w eS eI (.slice a n cap) n vs Ls) (hn : n ≤ 4096) (hr : ∀ i, i < n → (Ls[i]!).length ≤ 4096) (h0 : 0 ≤ k0) (h1 : k0 ≤ 100000) :
    Calls Try.prog 29 #[.slice a n cap, .int .i64 k0] w fun e w' =>
    e = .returned (.int .i64 (k0 + (sumT Ls n : Nat))) ∧ TbOwn lo hi w' eS eI (.slice a n cap) n vs (marksT Ls k0) ∧ Chg lo hi w w' := by
  have HLN : Hid (Ls.length = n) := h.len
  have HS : Hid (∀ k, k ≤ n → sumT Ls k ≤ 16777216) := fun k hk => by
    have h3 := HLN.out
    have h2 := sumT_le (c := 4096) (fun i hi => hr i (by omega)) k (by omega)
    exact Nat.le_trans h2 (Nat.le_trans (Nat.mul_le_mul_right 4096 (show k ≤ 4096 by omega)) (by omega))
  have HR := Lib.hid hr
  have HT : Hid (TbOwn lo hi w eS eI (.slice a n cap) n vs (stpT Ls k0 0)) := by rw [stpT_zero]; exact h
  clear h hr
  go_enter Try.func29, Try.ntmps29
  go_wp2
  go_loopw [1, 5] (fun k i wr => ∃ j : Nat, j ≤ n ∧ i = .int .i64 j ∧ k = .int .i64 (k0 + (sumT Ls j : Nat)) ∧ Hid (TbOwn lo hi wr eS eI (.slice a n cap) n vs (stpT Ls k0 j)) ∧ Hid (Chg lo hi w wr)) (fun _ i _ => n - (intOf i).toNat)
  case atStart => exact ⟨0, Nat.zero_le _, rfl, by simp [sumT], HT, Chg.of_below (Below.refl _ _)⟩
  case round =>
    clear HT
    obtain ⟨j, hj, rfl, rfl, HT, HC⟩ := hrel
    have hsj := HS.out j hj
    obtain ⟨sj, hsj2⟩ : ∃ sj, sj = sumT Ls j := ⟨_, rfl⟩
    rw [← hsj2] at hsj ⊢
    have HSJ := Lib.hid hsj2
    clear hsj2
    by_cases hlt : j < n
    · obtain ⟨g, rfl, hlo, hgs, hc⟩ := own_at HT.out.row hlt
      have hown := HT.out.each j hlt
      rw [stpT_at (by have := HLN.out; omega), if_neg (Nat.lt_irrefl _)] at hown
      obtain ⟨ar, cr, hv⟩ := hown.slice
      rw [hv] at hc
      have HOWN := Lib.hid hown
      have HV := Lib.hid hv
      have hL := HR.out j hlt
      obtain ⟨L, hLe⟩ : ∃ L, L = Ls[j]! := ⟨_, rfl⟩
      rw [← hLe] at hc HOWN HV hL
      have HLE := Lib.hid hLe
      have HO2 : Hid (wr.ownsRow lo eI 1 (.slice ar L.length cr) L.length (ints L)) := by have := HOWN.out.row; rw [HV.out] at this; exact this
      clear hown hv hLe
      go_wp2_with fail
      refine (markIntS_c lo cr L.length eI ar L _ _ rfl HO2.out (by omega) (by omega) (by omega)).mono ?_
      rintro e w2 ⟨rfl, hr2, hg2⟩
      have HT2 : Hid (TbOwn lo hi w2 eS eI (.slice (some ⟨g, 0, none⟩) n cap) n vs (stpT Ls k0 (j + 1))) := HT.out.mark HLN.out hlt (by rw [← HLE.out, HV.out, ← HSJ.out]; exact hr2) (by rw [HV.out]; exact hg2)
      have HC2 : Hid (Chg lo hi w w2) := HC.out.trans (Chg.of_grown hg2 (by have := HOWN.out.blocks; rw [HV.out] at this; exact this))
      clear hr2 hg2
      go_wp2_with fail
      go_roundw
      case rel => exact ⟨j+1, by omega, by go_num, by rw [sumT, ← HSJ.out, ← HLE.out]; first | go_num | (congr 1; omega), HT2, HC2⟩
      case measure => simp [intOf]; omega
    · obtain rfl : j = n := by omega
      go_wp2
      go_ret
      exact ⟨by rw [HSJ.out]; rfl, by have := HT.out; unfold marksT; rw [HLN.out]; exact this, HC.out⟩
set_option maxHeartbeats 2000000 in
theorem heldIntSS_c (a : Option Addr) (cap n : Nat) (Ls : List (List Int)) (k0 : Int) (w : World) (hA : TbAt w a (marksT Ls k0)) (hLn : Ls.length = n) (hn : n ≤ 4096) (hr : ∀ i, i < n → (Ls[i]!).length ≤ 4096) (h0 : 0 ≤ k0) (h1 : k0 ≤ 100000) : Calls Try.prog 30 #[.slice a n cap, .int .i64 k0] w fun e w' =>
    e = .returned (.int .i64 (k0 + (sumT Ls n : Nat))) ∧ w = w' := by
  have HLN := Lib.hid hLn
  have HS : Hid (∀ k, k ≤ n → sumT Ls k ≤ 16777216) := fun k hk => by
    have h3 := HLN.out
    have h2 := sumT_le (c := 4096) (fun i hi => hr i (by omega)) k (by omega)
    exact Nat.le_trans h2 (Nat.le_trans (Nat.mul_le_mul_right 4096 (show k ≤ 4096 by omega)) (by omega))
  have HR := Lib.hid hr
  have HA := Lib.hid hA
  clear hA hr hLn
  go_enter Try.func30, Try.ntmps30
  go_wp2
  go_loop [1, 5] (fun k i => ∃ j : Nat, j ≤ n ∧ i = .int .i64 j ∧ k = .int .i64 (k0 + (sumT Ls j : Nat))) (fun _ i => n - (intOf i).toNat)
  case atStart => exact ⟨0, Nat.zero_le _, rfl, by simp [sumT]⟩
  case round =>
    obtain ⟨j, hj, rfl, rfl⟩ := hrel
    have hsj := HS.out j hj
    obtain ⟨sj, hsj2⟩ : ∃ sj, sj = sumT Ls j := ⟨_, rfl⟩
    rw [← hsj2] at hsj ⊢
    have HSJ := Lib.hid hsj2
    clear hsj2
    by_cases hlt : j < n
    · obtain ⟨b, off, ar, cr, rfl, hbs, c0, hi⟩ := HA.out j (by rw [marksT_len]; have := HLN.out; omega)
      rw [marksT_at (by have := HLN.out; omega), ← HSJ.out] at hi
      rw [marksT_at (by have := HLN.out; omega), length_marks] at c0
      have hL := HR.out j hlt
      obtain ⟨ln, hLe⟩ : ∃ ln, ln = (Ls[j]!).length := ⟨_, rfl⟩
      rw [← hLe] at c0 hi hL
      have HLE := Lib.hid hLe
      have HI := Lib.hid hi
      clear hLe hi
      have hd : decide (k0 + (sj : Int) + (ln : Int) < 0) = false := by simp; omega
      go_wp2_with fail
      refine (heldIntS_c ar cr ln _ _ HI.out (by omega) (by omega) (by omega)).mono ?_
      rintro e w2 ⟨rfl, rfl⟩
      go_wp2_with fail
      go_round
      case rel => exact ⟨j+1, by omega, by go_num, by rw [sumT, ← HSJ.out, ← HLE.out]; first | go_num | (congr 1; omega)⟩
      case measure => simp [intOf]; omega
    · obtain rfl : j = n := by omega
      go_wp2
      go_ret
      exact ⟨by rw [HSJ.out]; rfl, rfl⟩
end Go.Proofs.Ytldogbahbjompaa
