/- Rows of rows of numbers; the code of an opening. -/
import Derived.Test.YtbaahghfjmkeoaaKdSrch0
import Derived.Deep.AppendLies
import Derived.Deep.DeepCutAuto
set_option linter.unusedVariables false
set_option linter.unusedSimpArgs false
namespace Go.KD
open Go.RowKit
theorem ic_grown2 {w w' : World} {a : Option Addr} {n c : Nat} {l : List Int} {row : Option Nat} (h : IC w a l) (hg : w.grownBy w' row) (hne : ∀ b, (Value.slice a n c).ownBlock = some b → 0 < l.length → row ≠ some b) : IC w' a l := by
  intro k hk
  obtain ⟨b, off, hb, hbs, hc⟩ := h k hk
  subst hb
  refine ⟨b, off, rfl, Nat.lt_of_lt_of_le hbs hg.size, ?_⟩
  rw [← hc]
  exact World.cell?_of_block (hg.block b hbs (fun e => hne b rfl (by omega) e.symm))
/-- A slice of numbers, in none of the blocks g, x, y; owned, if own is true. -/
structure RwE (own : Bool) (W : World) (lo : Nat) (eI : TypeId) (g x y : Nat) (v : Value) (L : List Int) : Prop where
  ic : ∃ a c, v = .slice a L.length c ∧ IC W a L
  ne : ∀ b, v.ownBlock = some b → (own = true ∨ 0 < L.length) → b ≠ g ∧ b ≠ x ∧ b ≠ y ∧ b < W.heap.size
  ow : own = true → Own lo W.heap.size W eI 1 v L.length (ints L)
theorem RwE.later {own : Bool} {W W' : World} {lo : Nat} {eI : TypeId} {g x y : Nat} {v : Value} {L : List Int} (h : RwE own W lo eI g x y v L) (hb : Below W.heap.size W W') : RwE own W' lo eI g x y v L := by
  obtain ⟨⟨a, c, hv, hi⟩, hn, ho⟩ := h
  have hz := hb.size
  exact ⟨⟨a, c, hv, hi.later hb⟩, fun b hbb hp => by obtain ⟨h1, h2, h3, h4⟩ := hn b hbb hp; exact ⟨h1, h2, h3, by omega⟩, fun h => ((ho h).later hb (Nat.le_refl _)).mono (Nat.le_refl _) hz⟩
theorem RwE.grown {own : Bool} {W W' : World} {lo : Nat} {eI : TypeId} {g x y : Nat} {v : Value} {L : List Int} {z : Nat} (h : RwE own W lo eI g x y v L) (hg : W.grownBy W' (some z)) (hz : z = g ∨ z = x ∨ z = y) : RwE own W' lo eI g x y v L := by
  obtain ⟨⟨a, c, hv, hi⟩, hn, ho⟩ := h
  have hs := hg.size
  have hne : ∀ b, v.ownBlock = some b → (own = true ∨ 0 < L.length) → b ≠ z := fun b hb hp => by obtain ⟨h1, h2, h3, _⟩ := hn b hb hp; rcases hz with rfl | rfl | rfl <;> assumption
  refine ⟨⟨a, c, hv, ic_grown2 (n := L.length) (c := c) hi hg fun b hb hp e => ?_⟩, fun b hb hp => by obtain ⟨h1, h2, h3, h4⟩ := hn b hb hp; exact ⟨h1, h2, h3, by omega⟩, fun h => ((ho h).grown_ne hg fun b hb e => ?_).mono (Nat.le_refl _) hs⟩
  · cases e; exact hne _ (by rw [hv]; exact hb) (.inr hp) rfl
  · cases e; exact hne _ hb (.inl h) rfl
/-- A row of such slices. -/
structure RwS (own : Bool) (W : World) (lo : Nat) (eS eI : TypeId) (g c x y : Nat) (vs : List Value) (Ls : List (List Int)) : Prop where
  row : W.ownsRow lo eS 1 (.slice (some ⟨g, 0, none⟩) Ls.length c) Ls.length vs
  each : ∀ i, i < Ls.length → RwE own W lo eI g x y vs[i]! Ls[i]!
  gs : g < W.heap.size
theorem RwS.len {own : Bool} {W : World} {lo : Nat} {eS eI : TypeId} {g c x y : Nat} {vs : List Value} {Ls : List (List Int)} (h : RwS own W lo eS eI g c x y vs Ls) : vs.length = Ls.length := by have := h.row.1; simpa using this
theorem RwS.later {own : Bool} {W W' : World} {lo : Nat} {eS eI : TypeId} {g c x y : Nat} {vs : List Value} {Ls : List (List Int)} (h : RwS own W lo eS eI g c x y vs Ls) (hb : Below W.heap.size W W') : RwS own W' lo eS eI g c x y vs Ls :=
  ⟨((Own.of h.row).later hb (Nat.le_refl _)).row, fun i hi => (h.each i hi).later hb, Nat.lt_of_lt_of_le h.gs hb.size⟩
theorem RwS.grown {own : Bool} {W W' : World} {lo : Nat} {eS eI : TypeId} {g c x y : Nat} {vs : List Value} {Ls : List (List Int)} {z : Nat} (h : RwS own W lo eS eI g c x y vs Ls) (hg : W.grownBy W' (some z)) (hz : z = x ∨ z = y) (hne : z ≠ g) : RwS own W' lo eS eI g c x y vs Ls :=
  ⟨((Own.of h.row).grown_ne hg (fun b hb e => by cases e; cases hb; exact hne rfl)).row, fun i hi => (h.each i hi).grown hg (.inr hz), Nat.lt_of_lt_of_le h.gs hg.size⟩
theorem RwS.cell {own : Bool} {W : World} {lo : Nat} {eS eI : TypeId} {g c x y : Nat} {vs : List Value} {Ls : List (List Int)} (h : RwS own W lo eS eI g c x y vs Ls) {i : Nat} (hi : i < Ls.length) : W.cell? ⟨g, i, none⟩ = some vs[i]! := by
  have hl := h.len
  rw [h.row.cellAt i (by omega), List.getElem?_eq_getElem (by omega), getElem!_pos vs i (by omega)]
theorem RwS.push {own : Bool} {W W' : World} {lo : Nat} {eS eI : TypeId} {g c x y g' c' : Nat} {vs : List Value} {Ls : List (List Int)} {v : Value} {L : List Int} (h : RwS own W lo eS eI g c x y vs Ls) (he : RwE own W lo eI g x y v L) (hx : x < W.heap.size) (hy : y < W.heap.size) (hgx : g ≠ x) (hgy : g ≠ y)
    (hown : W'.ownsRow lo eS 1 (.slice (some ⟨g', 0, none⟩) (Ls.length + 1) c') (Ls.length + 1) (vs ++ [v])) (hg : W.grownBy W' (some g)) (hat : g = g' ∨ W.heap.size ≤ g') (hlt : g' < W'.heap.size) :
    RwS own W' lo eS eI g' c' x y (vs ++ [v]) (Ls ++ [L]) ∧ g' ≠ x ∧ g' ≠ y := by
  have hl := h.len
  have hgs := h.gs
  refine ⟨⟨by rw [List.length_append]; exact hown, fun i hi => ?_, hlt⟩, by omega, by omega⟩
  have key : ∀ u M, RwE own W lo eI g x y u M → RwE own W' lo eI g' x y u M := by
    intro u M hu
    have h1 := hu.grown hg (.inl rfl)
    refine ⟨h1.ic, fun b hb hp => ?_, h1.ow⟩
    obtain ⟨n1, n2, n3, n4⟩ := h1.ne b hb hp
    obtain ⟨m1, m2, m3, m4⟩ := hu.ne b hb hp
    exact ⟨by omega, n2, n3, n4⟩
  by_cases hi' : i < Ls.length
  · have e1 : (vs ++ [v])[i]! = vs[i]! := by rw [getElem!_pos _ i (by simp; omega), getElem!_pos vs i (by omega), List.getElem_append_left]
    have e2 : (Ls ++ [L])[i]! = Ls[i]! := by rw [getElem!_pos _ i (by simp; omega), getElem!_pos Ls i hi', List.getElem_append_left]
    rw [e1, e2]
    exact key _ _ (h.each i hi')
  · have hi2 : i = Ls.length := by simp at hi; omega
    subst hi2
    have e1 : (vs ++ [v])[Ls.length]! = v := by rw [← hl, getElem!_pos _ _ (by simp)]; simp
    have e2 : (Ls ++ [L])[Ls.length]! = L := by rw [getElem!_pos _ _ (by simp)]; simp
    rw [e1, e2]
    exact key _ _ he
theorem news_one {W : World} {g : Nat} {v : Value} (h : W.cell? ⟨g, 0, none⟩ = some v) : ∀ j u, [v][j]? = some u → W.cell? ((⟨g, 0, none⟩ : Addr).add j) = some u := by
  intro j u hu
  cases j with
  | zero => rw [add_at rfl]; simpa [h] using hu
  | succ j => simp at hu
end Go.KD
namespace Go.Proofs.Ytbaahghfjmkeoaa
open Go.RowKit Go.KD
attribute [local go_sem] later_cell later_frozen
theorem infoS : (Try.prog.info? 23).map (fun i => (i.zero, i.size, i.bytes)) = some (some (.slice none 0 0), 1, 24) := by kernel_rfl
set_option maxHeartbeats 2000000 in
theorem l7Code_c (a1 : Option Addr) (c1 n1 : Nat) (lk : List Int) (a2 : Option Addr) (c2 n2 : Nat) (L : List Int) (w : World) (e1 : n1 = lk.length) (e2 : n2 = L.length) (h1 : IC w a1 lk) (h2 : IC w a2 L) (l1 : lk.length ≤ 10) (l2 : L.length ≤ 1048576) :
    Calls Try.prog 115 #[.slice a1 n1 c1, .slice a2 n2 c2] w fun e w' => e = .returned (.int .i64 (cdK lk (hasI L) lk.length : Nat)) ∧ w = w' := by
  subst e1 e2
  go_enter Try.func115, Try.ntmps115
  go_wp2
  go_loop [5, 6] (fun o i => ∃ k : Nat, k ≤ lk.length ∧ i = .int .i64 k ∧ o = .int .i64 (cdK lk (hasI L) k : Nat)) (fun _ i => lk.length - (intOf i).toNat)
  case atStart => exact ⟨0, Nat.zero_le _, rfl, rfl⟩
  case round =>
    obtain ⟨k, hk, rfl, rfl⟩ := hrel
    by_cases hlt : k < lk.length
    · have hkI : (k : Int) < (lk.length : Int) := by omega
      have hk63 : (k : Int) < 64 := by omega
      obtain ⟨b, off, x, rfl, HX, hbs, e0⟩ := h1.at k hlt
      have HS : Hid (cdK lk (hasI L) (k + 1) = if hasI L x then cdK lk (hasI L) k ||| 2 ^ k else cdK lk (hasI L) k) := by show _ = _; rw [← HX.out]; rfl
      have hcl : cdK lk (hasI L) k < 1024 := by
        have h3 := cdK_lt lk (hasI L) k
        have h4 : 2 ^ k ≤ 2 ^ 10 := Nat.pow_le_pow_right (by omega) (by omega)
        omega
      obtain ⟨p, HP, ep, hp⟩ := shl_at k (by omega)
      obtain ⟨cK, hcK⟩ : ∃ cK, cK = cdK lk (hasI L) k := ⟨_, rfl⟩
      rw [← hcK] at HS hcl ⊢
      have HCK := Lib.hid hcK
      clear hcK
      have eo : bits .or .i64 (cK : Int) (p : Int) = ((cK ||| p : Nat) : Int) := i64_or cK p (by omega) (by omega)
      rw [← HP.out] at HS
      go_wp2_with fail
      refine (l1Has_c _ _ _ L _ _ rfl h2 l2).mono ?_
      rintro e w1 ⟨rfl, rfl⟩
      cases hh : hasI L x
      case false =>
        rw [hh] at HS
        have HS2 := Lib.hid (show cdK lk (hasI L) (k + 1) = cK from HS.out)
        clear hh HS
        go_wp2
        go_round
        case rel => exact ⟨k + 1, by omega, by go_num, by rw [HS2.out]⟩
        case measure => simp [intOf]; omega
      case true =>
        rw [hh] at HS
        have HS2 := Lib.hid (show cdK lk (hasI L) (k + 1) = cK ||| p from HS.out)
        clear hh HS
        go_wp2
        go_round
        case rel => exact ⟨k + 1, by omega, by go_num, by rw [HS2.out]⟩
        case measure => simp [intOf]; omega
    · obtain rfl : k = lk.length := by omega
      go_wp2
      go_ret
      exact ⟨rfl, rfl⟩
end Go.Proofs.Ytbaahghfjmkeoaa
