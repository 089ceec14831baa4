/- Contracts of SwapFilling. spec.TurnLevers. Both sides of TurnLevers; how long the answer is. The law FnPlans, walked. Printed by dev/mk_lawplans.py. -/
import Derived.Test.YtmilpahggceemaaKpFp3
import Derived.Test.YtmilpahggceemaaKpFp0
import Derived.RegionTactic
import Derived.ChangeAlike
import Derived.Test.YtmilpahggceemaaKpFp4
import Derived.Test.YtmilpahggceemaaKpFp9
import Derived.StillTailTactics
import Derived.Test.YtmilpahggceemaaKpFp8
set_option linter.unusedVariables false
set_option linter.unusedSimpArgs false
namespace Go.KD
open Go.RowKit
def swapL (f : List Int) (i k : Nat) : List Int := (f.set i f[k]!).set k f[i]!
def placeN (x : Nat) (a : Int) : Nat := (idxP (eqP a) (mem x)).toNat
noncomputable def pSwapFilling (m : Mz) (set : Int) (f : List Int) (a b : Int) : List Int × Bool :=
  if askB m set && fillB m set f && !(a == b) && hasI (mem set.toNat) a && hasI (mem set.toNat) b then (swapL f (placeN set.toNat a) (placeN set.toNat b), true) else ([], false)
@[simp] theorem swapL_len (f : List Int) (i k : Nat) : (swapL f i k).length = f.length := by simp [swapL]
theorem pSwapFilling_len (m : Mz) (set : Int) (f : List Int) (a b : Int) : (pSwapFilling m set f a b).1.length ≤ 1000000 := by
  unfold pSwapFilling; split
  · rename_i h
    simp only [Bool.and_eq_true, fillB, decide_eq_true_eq] at h
    have := popc_le set.toNat
    simp only [swapL_len]; omega
  · simp
theorem memK6 {x : Nat} (hx : x < 64) : memK x 6 = mem x := by
  rw [mem_eq]
  have h0 : x >>> 6 = 0 := by rw [Nat.shiftRight_eq_div_pow]; omega
  exact (memK_end h0 34).symm
theorem idx_has {l : List Int} {a : Int} (h : hasI l a = true) : ∃ i, i < l.length ∧ idxP (eqP a) l = (i : Int) ∧ l[i]! = a ∧ ∀ j, j < i → l[j]! ≠ a := by
  rw [hasI_iff] at h
  cases hf : l.findIdx? (eqP a) with
  | none =>
    rw [List.findIdx?_eq_none_iff] at hf
    have := hf a h
    simp [eqP] at this
  | some k =>
    obtain ⟨hk, h1, h2⟩ := List.findIdx?_eq_some_iff_getElem.1 hf
    refine ⟨k, hk, by unfold idxP; rw [hf], ?_, fun j hj => ?_⟩
    · rw [getElem!_pos l k hk]; simpa [eqP] using h1
    · rw [getElem!_pos l j (by omega)]; have := h2 j hj; simpa [eqP] using this
theorem idx_not {l : List Int} {a : Int} (h : hasI l a = false) : idxP (eqP a) l = -1 := by
  refine idxP_none fun j hj => ?_
  cases he : eqP a l[j]! with
  | false => rfl
  | true => rw [hasI_at hj (by simpa [eqP] using he)] at h; cases h
end Go.KD
namespace Go.Proofs.Ytmilpahggceemaa
open Go.RowKit Go.KD
attribute [local go_sem] later_cell later_frozen
set_option maxHeartbeats 1000000 in
theorem l1Own_c (a : Option Addr) (cap n : Nat) (l : List Int) (w : World) (hn : n = l.length) (hA : IC w a l) (hl : n ≤ 1048576) : Calls Try.prog 154 #[.slice a n cap] w fun e w' =>
    ∃ v, e = .returned v ∧ w'.ownsRow w.heap.size 3 1 v n (ints l) ∧ Below w.heap.size w w' := by
  obtain ⟨i0, hi, hz0, hz1, hz2⟩ := info_parts infoI
  have HN := Lib.hid hn; clear hn
  cases a with
  | none =>
    have h0 : l = [] := by
      cases l with
      | nil => rfl
      | cons x l => obtain ⟨b, off, h, _⟩ := hA 0 (by simp); cases h
    subst h0
    have h00 : n = 0 := HN.out
    subst h00
    go_enter Try.func154, Try.ntmps154
    go_wp2
    go_ret
    exact ⟨_, rfl, World.ownsRow_lit w #[] 0 (Nat.le_refl _) (by unfold maxLen; omega) rfl, (Below.refl _ _).alloc (Nat.le_refl _) _⟩
  | some ad =>
    have hnews : Hid (∀ j u, (ints l)[j]? = some u → w.cell? (ad.add j) = some u) := by
      intro j u hu
      have hj : j < l.length := by
        rcases Nat.lt_or_ge j l.length with h | h
        · exact h
        · rw [List.getElem?_eq_none (by simpa using h)] at hu; cases hu
      obtain ⟨b, off, hb, hbs, hc⟩ := hA j hj
      cases hb
      rw [add_at rfl, hc, ← hu, ints, List.getElem?_map, List.getElem?_eq_getElem hj, getElem!_pos l j hj]
      rfl
    have hlt : Hid (∀ j u, (ints l)[j]? = some u → ad.block < w.heap.size) := fun j u hu => World.block_lt_of_cell? w (ad.add j) (hnews.out j u hu) |> fun h => by unfold Addr.add at h; split at h <;> exact h
    go_enter Try.func154, Try.ntmps154
    go_wp2_with (at_builtin; refine wpList_append_own _ rfl _ _ 24 rfl w.heap.size 3 i0 (.int .i64 0) 1 8 Try.underlying24 hi hz0 hz1 hz2 rfl (by decide) _ _ _ rfl (World.ownsRow_lit w #[] 0 (Nat.le_refl _) (by unfold maxLen; omega) rfl) ad n cap (ints l) rfl ?_ ?_ ?_ ?_ ?_ ?_ ?_; (rw [length_ints, HN.out]; omega); (intro j u hu; rw [World.cell?_alloc_lt _ _ _ (by have := hlt.out j u hu; unfold Addr.add; split <;> exact this)]; exact hnews.out j u hu); (intro u hu; simp only [ints, List.mem_map] at hu; obtain ⟨x, _, rfl⟩ := hu; rfl); (unfold maxLen; omega); omega; (simp); intro v' w1 hown' hgrow _)
    go_ret
    refine ⟨_, rfl, by simpa using hown', ((Below.refl _ _).alloc (Nat.le_refl _) _).grown hgrow (by simp) (fun g hg => by cases hg; exact Nat.le_refl _)⟩

end Go.Proofs.Ytmilpahggceemaa
namespace Go.KD
open Go.RowKit
theorem outA {W W' : World} {T : TypeId} {x y z : Value} (hb : Below (W.alloc (.cells #[x, y, z] T)).drew.heap.size (W.alloc (.cells #[x, y, z] T)).drew W') : W'.cell? ⟨W.heap.size, 0, none⟩ = some x ∧ W'.cell? ⟨W.heap.size, 1, none⟩ = some y ∧ W'.cell? ⟨W.heap.size, 2, none⟩ = some z ∧ W'.frozen? ⟨W.heap.size, 0, none⟩ = false ∧ W'.frozen? ⟨W.heap.size, 1, none⟩ = false ∧ W'.frozen? ⟨W.heap.size, 2, none⟩ = false ∧ W.heap.size < W'.heap.size := by
  have hs : W.heap.size < (W.alloc (.cells #[x, y, z] T)).drew.heap.size := by simp
  have hz := hb.size
  refine ⟨(hb.cell (p := ⟨W.heap.size, 0, none⟩) hs).trans (by simp [go_sem]), (hb.cell (p := ⟨W.heap.size, 1, none⟩) hs).trans (by simp [go_sem]), (hb.cell (p := ⟨W.heap.size, 2, none⟩) hs).trans (by simp [go_sem]), (hb.frozen (p := ⟨W.heap.size, 0, none⟩) hs).trans (by simp [go_sem]), (hb.frozen (p := ⟨W.heap.size, 1, none⟩) hs).trans (by simp [go_sem]), (hb.frozen (p := ⟨W.heap.size, 2, none⟩) hs).trans (by simp [go_sem]), by omega⟩
theorem outB {W W' : World} {T : TypeId} {o : Obj} {x y z : Value} (hb : Below ((W.alloc (.cells #[x, y, z] T)).alloc o).drew.heap.size ((W.alloc (.cells #[x, y, z] T)).alloc o).drew W') : W'.cell? ⟨W.heap.size, 0, none⟩ = some x ∧ W'.cell? ⟨W.heap.size, 1, none⟩ = some y ∧ W'.cell? ⟨W.heap.size, 2, none⟩ = some z ∧ W'.frozen? ⟨W.heap.size, 0, none⟩ = false ∧ W'.frozen? ⟨W.heap.size, 1, none⟩ = false ∧ W'.frozen? ⟨W.heap.size, 2, none⟩ = false ∧ W.heap.size < W'.heap.size :=
  outA (T := T) (x := x) (y := y) (z := z) (((show Below (W.alloc (.cells #[x, y, z] T)).drew.heap.size (W.alloc (.cells #[x, y, z] T)).drew ((W.alloc (.cells #[x, y, z] T)).alloc o).drew from ((Below.refl (W.alloc (.cells #[x, y, z] T)).heap.size (W.alloc (.cells #[x, y, z] T)).drew).alloc (Nat.le_refl _) o))).trans (hb.mono (by simp)))
/-- The world of spec.TurnLevers. -/
structure SP (W : World) (n bO bg og cg tl ng np cd ck c3 : Nat) (sz : Int) (ad ak a3 : Option Addr) (T : List D4) (Pl : List Int) : Prop where
  six : Six W n (.int .i64 sz) (.slice ad ng cd) (.slice ak np ck) (.int .i64 0) (.slice none 0 0) (.slice none 0 0)
  o0 : W.cell? ⟨bO, 0, none⟩ = some (.int .i64 sz)
  o1 : W.cell? ⟨bO, 1, none⟩ = some (.slice (some ⟨bg, og, none⟩) tl cg)
  o2 : W.cell? ⟨bO, 2, none⟩ = some (.slice a3 np c3)
  fo : W.frozen? ⟨bO, 1, none⟩ = false
  ob : bO < W.heap.size
  lb : n + 2 ≤ bO
  cv : CVQ W bg og (c4 T)
  tle : T.length = tl
  bs : bg < W.heap.size
  ne : bg ≠ bO
  cl : tl ≤ cg
  cm : cg ≤ maxLen
  p : IC W a3 Pl
  pn : ∀ b off, a3 = some ⟨b, off, none⟩ → 0 < Pl.length → b ≠ bO
  bl : n + 2 ≤ bg
  pl : ∀ b off, a3 = some ⟨b, off, none⟩ → 0 < Pl.length → n + 2 ≤ b
theorem SP.later {W W' : World} {n bO bg og cg tl ng np cd ck c3 : Nat} {sz : Int} {ad ak a3 : Option Addr} {T : List D4} {Pl : List Int} (h : SP W n bO bg og cg tl ng np cd ck c3 sz ad ak a3 T Pl) (hb : Below W.heap.size W W') : SP W' n bO bg og cg tl ng np cd ck c3 sz ad ak a3 T Pl := by
  have hz := hb.size
  exact ⟨h.six.later hb, (hb.cell (p := ⟨bO, 0, none⟩) h.ob).trans h.o0, (hb.cell (p := ⟨bO, 1, none⟩) h.ob).trans h.o1, (hb.cell (p := ⟨bO, 2, none⟩) h.ob).trans h.o2, (hb.frozen (p := ⟨bO, 1, none⟩) h.ob).trans h.fo, Nat.lt_of_lt_of_le h.ob hz, h.lb, h.cv.later h.bs hb, h.tle, Nat.lt_of_lt_of_le h.bs hz, h.ne, h.cl, h.cm, h.p.later hb, h.pn, h.bl, h.pl⟩
theorem SP.store {W : World} {n bO bg og cg tl ng np cd ck c3 bg' og' cg' tl' : Nat} {sz : Int} {ad ak a3 : Option Addr} {T T' : List D4} {Pl : List Int} (h : SP W n bO bg og cg tl ng np cd ck c3 sz ad ak a3 T Pl) (hcv : CVQ W bg' og' (c4 T')) (htl : T'.length = tl') (hbs : bg' < W.heap.size) (hne : bg' ≠ bO) (hcl : tl' ≤ cg') (hcm : cg' ≤ maxLen) (hbl : n + 2 ≤ bg') :
    SP (W.setCell ⟨bO, 1, none⟩ (.slice (some ⟨bg', og', none⟩) tl' cg')) n bO bg' og' cg' tl' ng np cd ck c3 sz ad ak a3 T' Pl := by
  have hc : Chg bO (bO + 1) W (W.setCell ⟨bO, 1, none⟩ (.slice (some ⟨bg', og', none⟩) tl' cg')) := Chg.of_grown (grown_setCell W ⟨bO, 1, none⟩ _) (fun g hg => by cases hg; exact ⟨Nat.le_refl _, Nat.lt_succ_self _⟩)
  have o0 : (W.setCell ⟨bO, 1, none⟩ (.slice (some ⟨bg', og', none⟩) tl' cg')).cell? ⟨bO, 0, none⟩ = some (.int .i64 sz) := by rw [World.cell?_setCell_other _ _ _ _ (by simp)]; exact h.o0
  have o1 : (W.setCell ⟨bO, 1, none⟩ (.slice (some ⟨bg', og', none⟩) tl' cg')).cell? ⟨bO, 1, none⟩ = some (.slice (some ⟨bg', og', none⟩) tl' cg') := World.cell?_setCell_same' _ _ _ (by rw [h.o1]; rfl)
  have o2 : (W.setCell ⟨bO, 1, none⟩ (.slice (some ⟨bg', og', none⟩) tl' cg')).cell? ⟨bO, 2, none⟩ = some (.slice a3 np c3) := by rw [World.cell?_setCell_other _ _ _ _ (by simp)]; exact h.o2
  have fo : (W.setCell ⟨bO, 1, none⟩ (.slice (some ⟨bg', og', none⟩) tl' cg')).frozen? ⟨bO, 1, none⟩ = false := by simpa using h.fo
  have hz : (W.setCell ⟨bO, 1, none⟩ (.slice (some ⟨bg', og', none⟩) tl' cg')).heap.size = W.heap.size := by simp
  obtain ⟨W', hW'⟩ : ∃ W', W' = W.setCell ⟨bO, 1, none⟩ (.slice (some ⟨bg', og', none⟩) tl' cg') := ⟨_, rfl⟩
  rw [← hW'] at hc o0 o1 o2 fo hz ⊢
  have lb := h.lb
  have hs := h.six
  have hs0 := hs.sz
  have c : ∀ b o, b < n + 2 → W'.cell? ⟨b, o, none⟩ = W.cell? ⟨b, o, none⟩ := fun b o hb => hc.cell (p := ⟨b, o, none⟩) (by show b < _; omega) (.inl (by show b < _; omega))
  have f : ∀ b o, b < n + 2 → W'.frozen? ⟨b, o, none⟩ = W.frozen? ⟨b, o, none⟩ := fun b o hb => World.frozen?_of_block (w := W) (hc.block b (by omega) (.inl (by omega)))
  refine ⟨⟨(c _ _ (by omega)).trans hs.a, (c _ _ (by omega)).trans hs.b, (c _ _ (by omega)).trans hs.c, (c _ _ (by omega)).trans hs.x, (c _ _ (by omega)).trans hs.y, (c _ _ (by omega)).trans hs.z, (f _ _ (by omega)).trans hs.fx, (f _ _ (by omega)).trans hs.fy, (f _ _ (by omega)).trans hs.fz, by omega⟩, o0, o1, o2, fo, by have := h.ob; omega, lb, ?_, htl, by omega, hne, hcl, hcm, ?_, h.pn, hbl, h.pl⟩
  · intro j u hu
    have h1 := hcv j u hu
    rw [add_at rfl] at h1 ⊢
    rw [hc.cell (p := ⟨bg', og' + j, none⟩) hbs (by show bg' < _ ∨ _ ≤ bg'; omega)]; exact h1
  · intro k hk
    obtain ⟨b, off, ha, hb, hcell⟩ := h.p k hk
    have := h.pn b off ha (by omega)
    exact ⟨b, off, ha, by omega, by rw [hc.cell (p := ⟨b, off + k, none⟩) hb (by show b < _ ∨ _ ≤ b; omega)]; exact hcell⟩
theorem sp_pn {W : World} {a3 : Option Addr} {Pl : List Int} {bO : Nat} (hp : IC W a3 Pl) (h : ∀ b off, a3 = some ⟨b, off, none⟩ → b < W.heap.size → b ≠ bO) : ∀ b off, a3 = some ⟨b, off, none⟩ → 0 < Pl.length → b ≠ bO := by
  intro b off e h0
  obtain ⟨b', off', e', hb, -⟩ := hp 0 h0
  rw [e] at e'
  cases e'
  exact h b off e hb
theorem SP.new {W : World} {n bg ng np cd ck c3 : Nat} {T : TypeId} {sz : Int} {ad ak a3 : Option Addr} {Pl : List Int} (hs : Six W n (.int .i64 sz) (.slice ad ng cd) (.slice ak np ck) (.int .i64 0) (.slice none 0 0) (.slice none 0 0)) (hp : IC W a3 Pl) (hb : bg < W.heap.size) (hbl : n + 2 ≤ bg) (hpl : ∀ b off, a3 = some ⟨b, off, none⟩ → 0 < Pl.length → n + 2 ≤ b) :
    SP (W.alloc (.cells #[.int .i64 sz, .slice (some ⟨bg, 0, none⟩) 0 0, .slice a3 np c3] T)) n W.heap.size bg 0 0 0 ng np cd ck c3 sz ad ak a3 [] Pl := by
  have hB : Below W.heap.size W (W.alloc (.cells #[.int .i64 sz, .slice (some ⟨bg, 0, none⟩) 0 0, .slice a3 np c3] T)) := (Below.refl _ _).alloc (Nat.le_refl _) _
  have h0 := hs.sz
  exact ⟨hs.later hB, by simp [go_sem], by simp [go_sem], by simp [go_sem], by simp [go_sem], by simp, by omega, fun j u hu => by simp [c4] at hu, rfl, by simp; omega, by omega, Nat.le_refl _, by unfold maxLen; omega, hp.later hB, sp_pn hp (fun b off _ h => by omega), hbl, hpl⟩
theorem SP.new4 {W : World} {n ng np cd ck c3 : Nat} {T T2 : TypeId} {sz : Int} {ad ak a3 : Option Addr} {Pl : List Int} (hs : Six W n (.int .i64 sz) (.slice ad ng cd) (.slice ak np ck) (.int .i64 0) (.slice none 0 0) (.slice none 0 0)) (hp : IC W a3 Pl) (hpl : ∀ b off, a3 = some ⟨b, off, none⟩ → 0 < Pl.length → n + 2 ≤ b) :
    SP ((W.alloc (.cells #[.int .i64 sz, .slice (some ⟨W.heap.size + 1, 0, none⟩) 0 0, .slice a3 np c3] T)).alloc (.cells #[] T2)) n W.heap.size (W.heap.size + 1) 0 0 0 ng np cd ck c3 sz ad ak a3 [] Pl := by
  have hB : Below W.heap.size W ((W.alloc (.cells #[.int .i64 sz, .slice (some ⟨W.heap.size + 1, 0, none⟩) 0 0, .slice a3 np c3] T)).alloc (.cells #[] T2)) := ((Below.refl _ _).alloc (Nat.le_refl _) _).alloc (by simp) _
  have h0 := hs.sz
  exact ⟨hs.later hB, by simp [go_sem], by simp [go_sem], by simp [go_sem], by simp [go_sem], by simp; omega, by omega, fun j u hu => by simp [c4] at hu, rfl, by simp, by omega, Nat.le_refl _, by unfold maxLen; omega, hp.later hB, sp_pn hp (fun b off _ h => by omega), by omega, hpl⟩
theorem SP.set {W : World} {n bO bg ng np cd ck c3 : Nat} {sz : Int} {ad ak a3 : Option Addr} {Pl : List Int} (hs : Six W n (.int .i64 sz) (.slice ad ng cd) (.slice ak np ck) (.int .i64 0) (.slice none 0 0) (.slice none 0 0)) (hp : IC W a3 Pl) (ob : bO < W.heap.size) (lb : n + 2 ≤ bO) (ne : bg ≠ bO) (pn : ∀ b off, a3 = some ⟨b, off, none⟩ → 0 < Pl.length → b ≠ bO) (hbl : n + 2 ≤ bg) (hpl : ∀ b off, a3 = some ⟨b, off, none⟩ → 0 < Pl.length → n + 2 ≤ b) {x y z : Value} (t0 : W.cell? ⟨bO, 0, none⟩ = some x) (t1 : W.cell? ⟨bO, 1, none⟩ = some y) (t2 : W.cell? ⟨bO, 2, none⟩ = some z) (tf : W.frozen? ⟨bO, 1, none⟩ = false) :
    ∀ W'', Below (((W.setCell ⟨bO, 0, none⟩ (.int .i64 sz)).setCell ⟨bO, 1, none⟩ (.slice (some ⟨bg, 0, none⟩) 0 0)).setCell ⟨bO, 2, none⟩ (.slice a3 np c3)).heap.size (((W.setCell ⟨bO, 0, none⟩ (.int .i64 sz)).setCell ⟨bO, 1, none⟩ (.slice (some ⟨bg, 0, none⟩) 0 0)).setCell ⟨bO, 2, none⟩ (.slice a3 np c3)) W'' → bg < W''.heap.size → SP W'' n bO bg 0 0 0 ng np cd ck c3 sz ad ak a3 [] Pl := by
  have k1 : Chg bO (bO + 1) W (W.setCell ⟨bO, 0, none⟩ (.int .i64 sz)) := Chg.of_grown (grown_setCell W ⟨bO, 0, none⟩ _) (fun g hg => by cases hg; exact ⟨Nat.le_refl _, Nat.lt_succ_self _⟩)
  have k2 : Chg bO (bO + 1) (W.setCell ⟨bO, 0, none⟩ (.int .i64 sz)) ((W.setCell ⟨bO, 0, none⟩ (.int .i64 sz)).setCell ⟨bO, 1, none⟩ (.slice (some ⟨bg, 0, none⟩) 0 0)) := Chg.of_grown (grown_setCell _ ⟨bO, 1, none⟩ _) (fun g hg => by cases hg; exact ⟨Nat.le_refl _, Nat.lt_succ_self _⟩)
  have k3 : Chg bO (bO + 1) ((W.setCell ⟨bO, 0, none⟩ (.int .i64 sz)).setCell ⟨bO, 1, none⟩ (.slice (some ⟨bg, 0, none⟩) 0 0)) (((W.setCell ⟨bO, 0, none⟩ (.int .i64 sz)).setCell ⟨bO, 1, none⟩ (.slice (some ⟨bg, 0, none⟩) 0 0)).setCell ⟨bO, 2, none⟩ (.slice a3 np c3)) := Chg.of_grown (grown_setCell _ ⟨bO, 2, none⟩ _) (fun g hg => by cases hg; exact ⟨Nat.le_refl _, Nat.lt_succ_self _⟩)
  have hc := (k1.trans k2).trans k3
  have hz : (((W.setCell ⟨bO, 0, none⟩ (.int .i64 sz)).setCell ⟨bO, 1, none⟩ (.slice (some ⟨bg, 0, none⟩) 0 0)).setCell ⟨bO, 2, none⟩ (.slice a3 np c3)).heap.size = W.heap.size := by simp
  have hs0 := hs.sz
  have o0 : (((W.setCell ⟨bO, 0, none⟩ (.int .i64 sz)).setCell ⟨bO, 1, none⟩ (.slice (some ⟨bg, 0, none⟩) 0 0)).setCell ⟨bO, 2, none⟩ (.slice a3 np c3)).cell? ⟨bO, 0, none⟩ = some (.int .i64 sz) := by
    rw [World.cell?_setCell_other _ _ _ _ (by simp), World.cell?_setCell_other _ _ _ _ (by simp), World.cell?_setCell_same' _ _ _ (by rw [t0]; rfl)]
  have o1 : (((W.setCell ⟨bO, 0, none⟩ (.int .i64 sz)).setCell ⟨bO, 1, none⟩ (.slice (some ⟨bg, 0, none⟩) 0 0)).setCell ⟨bO, 2, none⟩ (.slice a3 np c3)).cell? ⟨bO, 1, none⟩ = some (.slice (some ⟨bg, 0, none⟩) 0 0) := by
    rw [World.cell?_setCell_other _ _ _ _ (by simp), World.cell?_setCell_same' _ _ _ (by rw [World.cell?_setCell_other _ _ _ _ (by simp), t1]; rfl)]
  have o2 : (((W.setCell ⟨bO, 0, none⟩ (.int .i64 sz)).setCell ⟨bO, 1, none⟩ (.slice (some ⟨bg, 0, none⟩) 0 0)).setCell ⟨bO, 2, none⟩ (.slice a3 np c3)).cell? ⟨bO, 2, none⟩ = some (.slice a3 np c3) := by
    rw [World.cell?_setCell_same' _ _ _ (by rw [World.cell?_setCell_other _ _ _ _ (by simp), World.cell?_setCell_other _ _ _ _ (by simp), t2]; rfl)]
  have fo : (((W.setCell ⟨bO, 0, none⟩ (.int .i64 sz)).setCell ⟨bO, 1, none⟩ (.slice (some ⟨bg, 0, none⟩) 0 0)).setCell ⟨bO, 2, none⟩ (.slice a3 np c3)).frozen? ⟨bO, 1, none⟩ = false := by simpa using tf
  obtain ⟨W', hW'⟩ : ∃ W', W' = ((W.setCell ⟨bO, 0, none⟩ (.int .i64 sz)).setCell ⟨bO, 1, none⟩ (.slice (some ⟨bg, 0, none⟩) 0 0)).setCell ⟨bO, 2, none⟩ (.slice a3 np c3) := ⟨_, rfl⟩
  rw [← hW'] at hc hz o0 o1 o2 fo ⊢
  have c : ∀ b o, b < n + 2 → W'.cell? ⟨b, o, none⟩ = W.cell? ⟨b, o, none⟩ := fun b o hb => hc.cell (p := ⟨b, o, none⟩) (by show b < _; omega) (.inl (by show b < _; omega))
  have f : ∀ b o, b < n + 2 → W'.frozen? ⟨b, o, none⟩ = W.frozen? ⟨b, o, none⟩ := fun b o hb => World.frozen?_of_block (w := W) (hc.block b (by omega) (.inl (by omega)))
  have six : Six W' n (.int .i64 sz) (.slice ad ng cd) (.slice ak np ck) (.int .i64 0) (.slice none 0 0) (.slice none 0 0) := ⟨(c _ _ (by omega)).trans hs.a, (c _ _ (by omega)).trans hs.b, (c _ _ (by omega)).trans hs.c, (c _ _ (by omega)).trans hs.x, (c _ _ (by omega)).trans hs.y, (c _ _ (by omega)).trans hs.z, (f _ _ (by omega)).trans hs.fx, (f _ _ (by omega)).trans hs.fy, (f _ _ (by omega)).trans hs.fz, by omega⟩
  have hp' : IC W' a3 Pl := by
    intro k hk
    obtain ⟨b, off, ha, hb, hcell⟩ := hp k hk
    have := pn b off ha (by omega)
    exact ⟨b, off, ha, by omega, by rw [hc.cell (p := ⟨b, off + k, none⟩) hb (by show b < _ ∨ _ ≤ b; omega)]; exact hcell⟩
  intro W'' hB hb
  have ob' : bO < W'.heap.size := by omega
  have hz2 := hB.size
  exact ⟨six.later hB, (hB.cell (p := ⟨bO, 0, none⟩) ob').trans o0, (hB.cell (p := ⟨bO, 1, none⟩) ob').trans o1, (hB.cell (p := ⟨bO, 2, none⟩) ob').trans o2, (hB.frozen (p := ⟨bO, 1, none⟩) ob').trans fo, by omega, lb, fun j u hu => by simp [c4] at hu, rfl, hb, ne, Nat.le_refl _, by unfold maxLen; omega, hp'.later hB, pn, hbl, hpl⟩
end Go.KD
namespace Go.Proofs.Ytmilpahggceemaa
open Go.RowKit Go.KD
attribute [local go_sem] later_cell later_frozen
set_option maxRecDepth 100000 in
set_option maxHeartbeats 8000000 in
theorem specTurnLevers_c (v : Value) (m : Wk) (l : Int) (w : World) (R : Wk) (b : Bool) (hp : pTurnLevers m l = (R, b)) (hm : WkAt w v m) (wl : wfI l) :
    Calls Try.prog 33 #[v, .int .i64 l] w fun e w' => ∃ u, e = .returned (.tuple #[u, .bool b]) ∧ WkAt w' u R ∧ Below w.heap.size w w' := by
  have hM := hm
  obtain ⟨⟨ad, cd, ak, ck, rfl, hd, hk'⟩, nd, nk⟩ := hM
  have H6 : Six ((w.alloc (.cells #[.int .i64 m.size, .slice ad m.gates.length cd, .slice ak m.pulls.length ck] 36)).alloc (.cells #[.int .i64 0, .slice none 0 0, .slice none 0 0] 36)) w.heap.size (.int .i64 m.size) (.slice ad m.gates.length cd) (.slice ak m.pulls.length ck) (.int .i64 0) (.slice none 0 0) (.slice none 0 0) := ⟨by simp [go_sem], by simp [go_sem], by simp [go_sem], by simp [go_sem], by simp [go_sem], by simp [go_sem], by simp [go_sem], by simp [go_sem], by simp [go_sem], by simp⟩
  have HB0 : Hid (Below w.heap.size w ((w.alloc (.cells #[.int .i64 m.size, .slice ad m.gates.length cd, .slice ak m.pulls.length ck] 36)).alloc (.cells #[.int .i64 0, .slice none 0 0, .slice none 0 0] 36))) := ((Below.refl _ _).alloc (Nat.le_refl _) _).alloc (by simp) _
  have HS6 : Hid (∀ W, Below ((w.alloc (.cells #[.int .i64 m.size, .slice ad m.gates.length cd, .slice ak m.pulls.length ck] 36)).alloc (.cells #[.int .i64 0, .slice none 0 0, .slice none 0 0] 36)).heap.size ((w.alloc (.cells #[.int .i64 m.size, .slice ad m.gates.length cd, .slice ak m.pulls.length ck] 36)).alloc (.cells #[.int .i64 0, .slice none 0 0, .slice none 0 0] 36)) W → Six W w.heap.size (.int .i64 m.size) (.slice ad m.gates.length cd) (.slice ak m.pulls.length ck) (.int .i64 0) (.slice none 0 0) (.slice none 0 0)) := fun W hW => H6.later hW
  clear H6
  cases g1 : worksB m
  case false =>
    have hp' : pTurnLevers m l = (⟨0, [], []⟩, false) := by simp [pTurnLevers, g1]
    rw [hp'] at hp
    cases hp
    clear hp'
    go_enter Try.func33, Try.ntmps33
    go_wp2_with (go_at_call 141; refine (l8Works_c _ m _ (hm.later HB0.out)).mono ?_; rintro e w1 ⟨rfl, hb1⟩; have HB1 : Hid (Below w.heap.size w w1) := below_then HB0.out hb1; obtain ⟨s0, s1, s2, s3, s4, s5, s6, s7, s8, s9⟩ := HS6.out w1 hb1; rw [g1])
    refine bodyPost_ret (v := .tuple #[.agg #[.int .i64 0, .slice none 0 0, .slice none 0 0], .bool false]) (by simp [results, Try.results33, go_sem, *]) rfl ?_
    exact ⟨_, rfl, ⟨⟨none, 0, none, 0, rfl, fun k hk => by simp at hk, fun k hk => by simp at hk⟩, by simp, by simp⟩, by repeat (first | exact HB1.out | refine Below.setCell ?_ (by show w.heap.size ≤ w.heap.size + 1; omega) _)⟩
  cases g2 : setB l
  case false =>
    have hp' : pTurnLevers m l = (⟨0, [], []⟩, false) := by simp [pTurnLevers, g2]
    rw [hp'] at hp
    cases hp
    clear hp'
    go_enter Try.func33, Try.ntmps33
    go_wp2_with (first
      | (go_at_call 141; refine (l8Works_c _ m _ (hm.later HB0.out)).mono ?_; rintro e w1 ⟨rfl, hb1⟩; have HB1 : Hid (Below w.heap.size w w1) := below_then HB0.out hb1; obtain ⟨s0, s1, s2, s3, s4, s5, s6, s7, s8, s9⟩ := HS6.out w1 hb1; rw [g1])
      | (go_at_call 133; refine (l2Set_c _ _).mono ?_; rintro e w2 ⟨rfl, rfl⟩; rw [g2]))
    refine bodyPost_ret (v := .tuple #[.agg #[.int .i64 0, .slice none 0 0, .slice none 0 0], .bool false]) (by simp [results, Try.results33, go_sem, *]) rfl ?_
    exact ⟨_, rfl, ⟨⟨none, 0, none, 0, rfl, fun k hk => by simp at hk, fun k hk => by simp at hk⟩, by simp, by simp⟩, by repeat (first | exact HB1.out | refine Below.setCell ?_ (by show w.heap.size ≤ w.heap.size + 1; omega) _)⟩
  have ok := worksB_true.1 g1
  obtain ⟨l0, l64⟩ : 0 ≤ l ∧ l < 64 := by have := setB_true.1 g2; omega
  obtain ⟨ln, rfl⟩ := Int.eq_ofNat_of_zero_le l0
  have hp' : pTurnLevers m (ln : Int) = (⟨m.size, turnL ln m.gates, m.pulls⟩, true) := by simp [pTurnLevers, g1, g2]
  rw [hp'] at hp
  cases hp
  clear hp'
  go_enter Try.func33, Try.ntmps33
  go_upto_region 3 with (first
    | (go_at_call 141; refine (l8Works_c _ m _ (hm.later HB0.out)).mono ?_; rintro e w1 ⟨rfl, hb1⟩; have HB1 : Hid (Below w.heap.size w w1) := below_then HB0.out hb1; have H61 := Lib.hid (HS6.out w1 hb1); obtain ⟨s0, s1, s2, s3, s4, s5, s6, s7, s8, s9⟩ := HS6.out w1 hb1; rw [g1])
    | (go_at_call 133; refine (l2Set_c _ _).mono ?_; rintro e w2 ⟨rfl, rfl⟩; rw [g2]))
  have hz1 := HB1.out.size
  clear s0 s1 s2 s3 s4 s5 s6 s7 s8 s9
  obtain ⟨q0, q1, q2, q3, q4, q5, q6, q7, q8, q9⟩ := H61.out
  go_cut [6] (fun s6 wx => ∃ (bO bg c3 : Nat) (a3 : Option Addr), s6 = .pointer (some ⟨bO, 0, none⟩) ∧ Hid (SP wx w.heap.size bO bg 0 0 0 m.gates.length m.pulls.length cd ck c3 m.size ad ak a3 [] m.pulls) ∧ Hid (Below w.heap.size w wx))
  case first =>
    go_region_held3 (fun W => W.cell? ⟨w.heap.size, 0, none⟩ = some (.int .i64 m.size) ∧ W.cell? ⟨w.heap.size, 1, none⟩ = some (.slice ad m.gates.length cd) ∧ W.cell? ⟨w.heap.size, 2, none⟩ = some (.slice ak m.pulls.length ck))
      (first | exact ⟨q0, q1, q2⟩ | exact ⟨r0, r1, r2⟩ | (refine ⟨?_, ?_, ?_⟩ <;> (repeat rw [World.cell?_setCell_other _ _ _ _ (by intro h; have := congrArg Addr.block h; dsimp only at this; omega)]) <;> first | exact r0 | exact r1 | exact r2) | (refine ⟨?_, ?_, ?_⟩ <;> (rw [World.cell?_alloc_lt _ _ _ (by simp; omega)]) <;> (repeat rw [World.cell?_setCell_other _ _ _ _ (by intro h; have := congrArg Addr.block h; dsimp only at this; omega)]) <;> first | exact r0 | exact r1 | exact r2) | exact ⟨(H62.out.later (by (repeat (first | exact Below.refl _ _ | apply Below.drew | apply below_drewN | (refine Below.setCell ?_ (by first | omega | (simp; done) | (simp; omega) | (dsimp only; omega)) _) | (refine Below.alloc ?_ (by first | omega | (simp; done) | (simp; omega) | (dsimp only; omega)) _))))).a, (H62.out.later (by (repeat (first | exact Below.refl _ _ | apply Below.drew | apply below_drewN | (refine Below.setCell ?_ (by first | omega | (simp; done) | (simp; omega) | (dsimp only; omega)) _) | (refine Below.alloc ?_ (by first | omega | (simp; done) | (simp; omega) | (dsimp only; omega)) _))))).b, (H62.out.later (by (repeat (first | exact Below.refl _ _ | apply Below.drew | apply below_drewN | (refine Below.setCell ?_ (by first | omega | (simp; done) | (simp; omega) | (dsimp only; omega)) _) | (refine Below.alloc ?_ (by first | omega | (simp; done) | (simp; omega) | (dsimp only; omega)) _))))).c⟩ | exact ⟨(H61.out.later (by (repeat (first | exact Below.refl _ _ | apply Below.drew | apply below_drewN | (refine Below.setCell ?_ (by first | omega | (simp; done) | (simp; omega) | (dsimp only; omega)) _) | (refine Below.alloc ?_ (by first | omega | (simp; done) | (simp; omega) | (dsimp only; omega)) _))))).a, (H61.out.later (by (repeat (first | exact Below.refl _ _ | apply Below.drew | apply below_drewN | (refine Below.setCell ?_ (by first | omega | (simp; done) | (simp; omega) | (dsimp only; omega)) _) | (refine Below.alloc ?_ (by first | omega | (simp; done) | (simp; omega) | (dsimp only; omega)) _))))).b, (H61.out.later (by (repeat (first | exact Below.refl _ _ | apply Below.drew | apply below_drewN | (refine Below.setCell ?_ (by first | omega | (simp; done) | (simp; omega) | (dsimp only; omega)) _) | (refine Below.alloc ?_ (by first | omega | (simp; done) | (simp; omega) | (dsimp only; omega)) _))))).c⟩)
      (first | (go_at_call 154; refine (l1Own_c _ _ _ m.pulls _ rfl (hk'.later (HB1.out.trans (by (repeat (first | exact Below.refl _ _ | apply Below.drew | apply below_drewN | (refine Below.setCell ?_ (by first | omega | (simp; done) | (simp; omega) | (dsimp only; omega)) _) | (refine Below.alloc ?_ (by first | omega | (simp; done) | (simp; omega) | (dsimp only; omega)) _)))))) nk).mono ?_; rintro e w2 ⟨v2, rfl, ho2, hb2⟩; obtain ⟨a2, c2, rfl⟩ := own_slice ho2; have HO2 := Lib.hid (Own.of ho2); clear ho2; have B2 : Hid (Below w1.heap.size w1 w2) := below_then (by (repeat (first | exact Below.refl _ _ | apply Below.drew | apply below_drewN | (refine Below.setCell ?_ (by first | omega | (simp; done) | (simp; omega) | (dsimp only; omega)) _) | (refine Below.alloc ?_ (by first | omega | (simp; done) | (simp; omega) | (dsimp only; omega)) _)))) hb2; have hz2 := hb2.size; have hzz2 := B2.out.size; have H62 := Lib.hid (H61.out.later B2.out); (try (have hA := outA hb2; obtain ⟨t0, t1, t2, tf0, tf1, tf2, tz⟩ := hA; (try simp only [World.size_alloc] at t0 t1 t2 tf0 tf1 tf2 tz))); (try (have hA := outB hb2; obtain ⟨t0, t1, t2, tf0, tf1, tf2, tz⟩ := hA; (try simp only [World.size_alloc] at t0 t1 t2 tf0 tf1 tf2 tz))); have HB2 := Lib.hid hb2; clear hb2; obtain ⟨r0, r1, r2, r3, r4, r5, r6, r7, r8, r9⟩ := H62.out))
    all_goals
      go_wp2_with fail
      go_meet
    case rel =>
      have h1 : w.heap.size + 1 < w1.heap.size := H61.out.sz
      have hB2 : Below w.heap.size w w2 := HB1.out.trans (B2.out.mono hz1)
      have hI2 := ic_of' HO2.out rfl
      have hzs := hz2
      simp only [World.size_alloc, World.size_drew] at hzs
      have hPL : ∀ b off, a2 = some ⟨b, off, none⟩ → 0 < m.pulls.length → w.heap.size + 2 ≤ b := fun b off e h0 => by
        obtain ⟨g5, c5, hv5, -, -⟩ := own_someS HO2.out.row h0
        have e5 := (Value.slice.inj hv5).1
        rw [e] at e5
        cases e5
        have := (HO2.out.blocks _ (by rw [hv5]; rfl)).1
        simp at this
        omega
      exact ⟨w2.heap.size, w1.heap.size, c2, a2, rfl, SP.new H62.out hI2 (by omega) (by omega) hPL, hB2.alloc hB2.size _⟩
    case rel =>
      have h1 : w.heap.size + 1 < w1.heap.size := H61.out.sz
      have hB2 : Below w.heap.size w w2 := HB1.out.trans (B2.out.mono hz1)
      have hI2 := ic_of' HO2.out rfl
      have hzs := hz2
      simp only [World.size_alloc, World.size_drew] at hzs
      have hPL : ∀ b off, a2 = some ⟨b, off, none⟩ → 0 < m.pulls.length → w.heap.size + 2 ≤ b := fun b off e h0 => by
        obtain ⟨g5, c5, hv5, -, -⟩ := own_someS HO2.out.row h0
        have e5 := (Value.slice.inj hv5).1
        rw [e] at e5
        cases e5
        have := (HO2.out.blocks _ (by rw [hv5]; rfl)).1
        simp at this
        omega
      exact ⟨w1.heap.size + 1, w1.heap.size, c2, a2, rfl, SP.set H62.out hI2 (by omega) (by omega) (by omega) (fun b off e h0 => by
        obtain ⟨g5, c5, hv5, -, -⟩ := own_someS HO2.out.row h0
        have e5 := (Value.slice.inj hv5).1
        rw [e] at e5
        cases e5
        have := (HO2.out.blocks _ (by rw [hv5]; rfl)).1
        simp at this
        omega) (by omega) hPL t0 t1 t2 tf1 _ (Below.refl _ _) (by simp; omega), (by repeat (first | exact hB2 | refine Below.setCell ?_ (by show w.heap.size ≤ w1.heap.size + 1; omega) _))⟩
    case rel =>
      have h1 : w.heap.size + 1 < w1.heap.size := H61.out.sz
      have hB2 : Below w.heap.size w w2 := HB1.out.trans (B2.out.mono hz1)
      have hI2 := ic_of' HO2.out rfl
      have hzs := hz2
      simp only [World.size_alloc, World.size_drew] at hzs
      have hPL : ∀ b off, a2 = some ⟨b, off, none⟩ → 0 < m.pulls.length → w.heap.size + 2 ≤ b := fun b off e h0 => by
        obtain ⟨g5, c5, hv5, -, -⟩ := own_someS HO2.out.row h0
        have e5 := (Value.slice.inj hv5).1
        rw [e] at e5
        cases e5
        have := (HO2.out.blocks _ (by rw [hv5]; rfl)).1
        simp at this
        omega
      have hA : Below w2.heap.size w2 (w2.alloc (.cells #[] 54)) := (Below.refl _ _).alloc (Nat.le_refl _) _
      have h7 := SP.new (T := 36) (c3 := c2) (H62.out.later hA) (hI2.later hA) (bg := w2.heap.size) (by simp) (by omega) hPL
      simp only [World.size_alloc] at h7
      exact ⟨w2.heap.size + 1, w2.heap.size, c2, a2, rfl, h7, (hB2.alloc hB2.size _).alloc (by simp; have := hB2.size; omega) _⟩
    case rel =>
      have h1 : w.heap.size + 1 < w1.heap.size := H61.out.sz
      have hB2 : Below w.heap.size w w2 := HB1.out.trans (B2.out.mono hz1)
      have hI2 := ic_of' HO2.out rfl
      have hzs := hz2
      simp only [World.size_alloc, World.size_drew] at hzs
      have hPL : ∀ b off, a2 = some ⟨b, off, none⟩ → 0 < m.pulls.length → w.heap.size + 2 ≤ b := fun b off e h0 => by
        obtain ⟨g5, c5, hv5, -, -⟩ := own_someS HO2.out.row h0
        have e5 := (Value.slice.inj hv5).1
        rw [e] at e5
        cases e5
        have := (HO2.out.blocks _ (by rw [hv5]; rfl)).1
        simp at this
        omega
      exact ⟨w2.heap.size, w2.heap.size + 1, c2, a2, rfl, SP.new4 H62.out hI2 hPL, (hB2.alloc hB2.size _).alloc (by simp; have := hB2.size; omega) _⟩
    case rel =>
      have h1 : w.heap.size + 1 < w1.heap.size := H61.out.sz
      have hB2 : Below w.heap.size w w2 := HB1.out.trans (B2.out.mono hz1)
      have hI2 := ic_of' HO2.out rfl
      have hzs := hz2
      simp only [World.size_alloc, World.size_drew] at hzs
      have hPL : ∀ b off, a2 = some ⟨b, off, none⟩ → 0 < m.pulls.length → w.heap.size + 2 ≤ b := fun b off e h0 => by
        obtain ⟨g5, c5, hv5, -, -⟩ := own_someS HO2.out.row h0
        have e5 := (Value.slice.inj hv5).1
        rw [e] at e5
        cases e5
        have := (HO2.out.blocks _ (by rw [hv5]; rfl)).1
        simp at this
        omega
      exact ⟨w1.heap.size, w1.heap.size + 1, c2, a2, rfl, SP.set H62.out hI2 (by omega) (by omega) (by omega) (fun b off e h0 => by
        obtain ⟨g5, c5, hv5, -, -⟩ := own_someS HO2.out.row h0
        have e5 := (Value.slice.inj hv5).1
        rw [e] at e5
        cases e5
        have := (HO2.out.blocks _ (by rw [hv5]; rfl)).1
        simp at this
        omega) (by omega) hPL t0 t1 t2 tf1 _ (Below.refl _ _) (by simp; omega), (by repeat (first | exact hB2 | refine Below.setCell ?_ (by show w.heap.size ≤ w1.heap.size; omega) _))⟩
    case rel =>
      have h1 : w.heap.size + 1 < w1.heap.size := H61.out.sz
      have hB2 : Below w.heap.size w w2 := HB1.out.trans (B2.out.mono hz1)
      have hI2 := ic_of' HO2.out rfl
      have hzs := hz2
      simp only [World.size_alloc, World.size_drew] at hzs
      have hPL : ∀ b off, a2 = some ⟨b, off, none⟩ → 0 < m.pulls.length → w.heap.size + 2 ≤ b := fun b off e h0 => by
        obtain ⟨g5, c5, hv5, -, -⟩ := own_someS HO2.out.row h0
        have e5 := (Value.slice.inj hv5).1
        rw [e] at e5
        cases e5
        have := (HO2.out.blocks _ (by rw [hv5]; rfl)).1
        simp at this
        omega
      exact ⟨w1.heap.size, w2.heap.size, c2, a2, rfl, SP.set H62.out hI2 (by omega) (by omega) (by omega) (fun b off e h0 => by
        obtain ⟨g5, c5, hv5, -, -⟩ := own_someS HO2.out.row h0
        have e5 := (Value.slice.inj hv5).1
        rw [e] at e5
        cases e5
        have := (HO2.out.blocks _ (by rw [hv5]; rfl)).1
        simp at this
        omega) (by omega) hPL t0 t1 t2 tf1 _ ((Below.refl _ _).alloc (Nat.le_refl _) _) (by simp), (by refine Below.alloc ?_ (by simp; have := hB2.size; omega) _; repeat (first | exact hB2 | refine Below.setCell ?_ (by show w.heap.size ≤ w1.heap.size; omega) _))⟩
  case rest =>
    obtain ⟨bO, bg0, c3, a3, rfl, HT, HB⟩ := hcut
    have OK := Lib.hid ok
    have HNG : Hid (m.gates.length ≤ 4096) := by have := ok.ng; show _ ≤ _; omega
    have HNP : Hid (m.pulls.length ≤ 1048576) := nk
    have HD : Hid (∀ W, Below w.heap.size w W → D4C W ad m.gates) := fun W hW => hd.later hW
    clear q0 q1 q2 q3 q4 q5 q6 q7 q8 q9 ok hd hk' nk nd hm H61 HB1 HS6 HB0
    have hob := HT.out.ob
    go_wp2
    go_loopw [7] (fun iv wr => ∃ (k bg og cg tl : Nat) (T : List D4), iv = .int .i64 k ∧ k ≤ m.gates.length ∧ tl ≤ k ∧ Hid (T = turnK ln m.gates k) ∧ Hid (SP wr w.heap.size bO bg og cg tl m.gates.length m.pulls.length cd ck c3 m.size ad ak a3 T m.pulls) ∧ Hid (Below w.heap.size w wr)) (fun iv _ => m.gates.length - (intOf iv).toNat)
    case atStart => exact ⟨0, bg0, 0, 0, 0, [], rfl, Nat.zero_le _, Nat.le_refl _, rfl, HT, HB⟩
    case round =>
      clear HT HB hob
      obtain ⟨wo, rfl⟩ : ∃ wo : World, wo = wr := ⟨_, rfl⟩
      obtain ⟨k, bg, og, cg, tl, T, rfl, hk, htk, HTK, HT, HB⟩ := hrel
      obtain ⟨q0, q1, q2, q3, q4, q5, q6, q7, q8, q9⟩ := HT.out.six
      have hzo := HB.out.size
      by_cases hlt : k < m.gates.length
      · have hltI : (k : Int) < (m.gates.length : Int) := by omega
        obtain ⟨b5, o5, x, y, z, u, rfl, HG, hbs5, e0, e1, e2, e3⟩ := (HD.out wo HB.out).at k hlt
        obtain ⟨f1, f2, f3, f4, f5, f6, f7⟩ := gate_facts OK.out hlt HG.out
        obtain ⟨zn, rfl⟩ := Int.eq_ofNat_of_zero_le f4
        obtain ⟨un, rfl⟩ := Int.eq_ofNat_of_zero_le f6
        obtain ⟨y0, hy0⟩ : ∃ y0, y0 = zn &&& ln := ⟨_, rfl⟩
        have hy64 : y0 < 64 := by rw [hy0]; exact and_lt64 ln (by omega)
        have ea : bits .and .i64 (zn : Int) (ln : Int) = (y0 : Int) := by rw [hy0]; exact i64_and zn ln (by omega) (by omega)
        obtain ⟨pv, hpv⟩ : ∃ pv : Nat, pv = popN y0 % 2 := ⟨_, rfl⟩
        have HPV : Hid (popc y0 % 2 = (pv : Int)) := by show _ = _; rw [hpv]; unfold popc; omega
        obtain ⟨tv, htv⟩ : ∃ tv : Nat, tv = un ^^^ pv := ⟨_, rfl⟩
        have eo : bits .xor .i64 (un : Int) (pv : Int) = (tv : Int) := by rw [htv]; exact i64_xor un pv (by omega) (by omega)
        have HTN : Hid (putG T (x, y, (zn : Int), (tv : Int)) = turnK ln m.gates (k + 1)) := by
          show _ = _
          rw [turnK_step hlt, ← HTK.out, HG.out]
          unfold turnG turnD
          simp only [Int.toNat_natCast]
          rw [← hy0, ← hpv, ← htv]
        have HLP := Lib.hid (putG_len T (x, y, (zn : Int), (tv : Int)))
        have HODD : Hid (∀ W, Calls Try.prog 156 #[.int .i64 (zn : Int), .int .i64 (ln : Int)] W fun e w' => e = .returned (.int .i64 (pv : Int)) ∧ w' = W) := fun W => (l8Odd_c zn ln y0 hy64 ea W).mono (fun e w' h => ⟨by rw [h.1, HPV.out], h.2.symm⟩)
        clear hpv htv hy0 f1 f2 f3 f4 f5 f6 f7 HG
        go_upto_region 8 with fail
        obtain ⟨wv, hwv⟩ : ∃ wv, wv = wo.alloc (.cells #[.int .i64 x, .int .i64 y, .int .i64 (zn : Int), .int .i64 (un : Int)] 54) := ⟨_, rfl⟩
        have hA : Below wo.heap.size wo wv := by rw [hwv]; exact (Below.refl _ _).alloc (Nat.le_refl _) _
        have hwz : wv.heap.size = wo.heap.size + 1 := by rw [hwv]; simp
        have p0 : wv.cell? ⟨wo.heap.size, 0, none⟩ = some (.int .i64 x) := by rw [hwv]; simp [go_sem]
        have p1 : wv.cell? ⟨wo.heap.size, 1, none⟩ = some (.int .i64 y) := by rw [hwv]; simp [go_sem]
        have p2 : wv.cell? ⟨wo.heap.size, 2, none⟩ = some (.int .i64 (zn : Int)) := by rw [hwv]; simp [go_sem]
        have p3 : wv.cell? ⟨wo.heap.size, 3, none⟩ = some (.int .i64 (un : Int)) := by rw [hwv]; simp [go_sem]
        rw [← hwv]
        have HTV : Hid (SP wv w.heap.size bO bg og cg tl m.gates.length m.pulls.length cd ck c3 m.size _ ak a3 T m.pulls) := HT.out.later hA
        have o1 := HTV.out.o1
        have fo := HTV.out.fo
        have hob : bO < wv.heap.size := HTV.out.ob
        have hobo : bO < wo.heap.size := HT.out.ob
        have hbO : bO ≠ wo.heap.size := by omega
        have HBV : Hid (Below w.heap.size w wv) := HB.out.trans (hA.mono HB.out.size)
        have hwl : wo.heap.size < wv.heap.size := by omega
        have hbgv : bg < wv.heap.size := HTV.out.bs
        have htl := HNG.out
        clear hwv e0 e1 e2 e3 HT HB hA q0 q1 q2 q3 q4 q5 q6 q7 q8 q9 hwz ea
        refine wp_region_tail 16 (by kernel_rfl) (by kernel_rfl) ?_
        simp only [List.take_succ_cons, List.take_zero, List.drop_succ_cons, List.drop_zero]
        repeat (first | still_step | still_call (HODD.out _))
        refine wpStill_nil ?_
        go_wp2_with fail
        refine (l8Put_c bg og cg tl T x y zn tv _ HTV.out.tle (by exact hbgv) (HTV.out.later (by (repeat (first | exact Below.refl _ _ | apply Below.drew | apply below_drewN | (refine Below.setCell ?_ (by first | omega | (simp; done) | (simp; omega) | (dsimp only; omega)) _) | (refine Below.alloc ?_ (by first | omega | (simp; done) | (simp; omega) | (dsimp only; omega)) _))))).cv HTV.out.cl HTV.out.cm (by omega)).mono ?_
        rintro e w3 ⟨b', off', c', n', rfl, hl', hc1, hc2, hcv, hbs', hor, hb3⟩
        have B3 : Hid (Below wv.heap.size wv w3) := below_then (by (repeat (first | exact Below.refl _ _ | apply Below.drew | apply below_drewN | (refine Below.setCell ?_ (by first | omega | (simp; done) | (simp; omega) | (dsimp only; omega)) _) | (refine Below.alloc ?_ (by first | omega | (simp; done) | (simp; omega) | (dsimp only; omega)) _)))) hb3
        have HT3 := Lib.hid (HTV.out.later B3.out)
        have o3 := HT3.out.o1
        have fo3 := HT3.out.fo
        have HCV := Lib.hid hcv
        have HL' := Lib.hid hl'
        have hne : b' ≠ bO := by
          rcases hor with h | h
          · exact fun e => HTV.out.ne (by rw [← h]; exact e)
          · exact fun e => absurd hob (by rw [← e]; have h2 : wv.heap.size ≤ b' := h; omega)
        have hbl' : w.heap.size + 2 ≤ b' := by
          rcases hor with h | h
          · rw [h]; exact HTV.out.bl
          · have h2 : wv.heap.size ≤ b' := h
            have := HTV.out.six.sz
            omega
        clear hcv hl' hb3 hor o1 fo
        go_wp2
        go_roundw
        case rel =>
          have h4 := HT3.out.store (T' := putG T (x, y, (zn : Int), (tv : Int))) HCV.out HL'.out hbs' hne hc1 hc2 hbl'
          have hn' : n' ≤ k + 1 := by have := HL'.out; have := HLP.out; have := HTV.out.tle; omega
          have h5 : Below w.heap.size w w3 := HBV.out.trans (B3.out.mono HBV.out.size)
          have h6 : Below w.heap.size w (w3.setCell ⟨bO, 1, none⟩ (.slice (some ⟨b', off', none⟩) n' c')) := h5.setCell (p := ⟨bO, 1, none⟩) (by have := HT3.out.lb; show w.heap.size ≤ bO; omega) _
          exact ⟨k + 1, b', off', c', n', _, by go_num, by omega, hn', HTN, h4.later (by (repeat (first | exact Below.refl _ _ | apply Below.drew | apply below_drewN | (refine Below.setCell ?_ (by first | omega | (simp; done) | (simp; omega) | (dsimp only; omega)) _) | (refine Below.alloc ?_ (by first | omega | (simp; done) | (simp; omega) | (dsimp only; omega)) _)))), h6.trans (by (repeat (first | exact Below.refl _ _ | apply Below.drew | apply below_drewN | (refine Below.setCell ?_ (by first | omega | (simp; done) | (simp; omega) | (dsimp only; omega)) _) | (refine Below.alloc ?_ (by first | omega | (simp; done) | (simp; omega) | (dsimp only; omega)) _))))⟩
        case measure => simp [intOf]; omega
      · obtain rfl : k = m.gates.length := by omega
        have o0 := HT.out.o0
        have o1 := HT.out.o1
        have o2 := HT.out.o2
        have hob := HT.out.ob
        have hlb := HT.out.lb
        have HTG : Hid (T = turnL ln m.gates) := HTK.out
        go_wp2
        refine bodyPost_ret (v := .tuple #[.agg #[.int .i64 m.size, .slice (some ⟨bg, og, none⟩) tl cg, .slice a3 m.pulls.length c3], .bool true]) (by simp [results, Try.results33, go_sem, *]) rfl ?_
        rw [← HTG.out]
        have hc : ∀ W', Chg (w.heap.size + 1) (w.heap.size + 2) wo W' → WkAt W' (.agg #[.int .i64 m.size, .slice (some ⟨bg, og, none⟩) tl cg, .slice a3 m.pulls.length c3]) ⟨m.size, T, m.pulls⟩ := by
          intro W' hc
          have hbs := HT.out.bs
          have hbl := HT.out.bl
          have hcv : CVQ W' bg og (c4 T) := by
            intro j u hu
            have h1 := HT.out.cv j u hu
            rw [add_at rfl] at h1 ⊢
            rw [hc.cell (p := ⟨bg, og + j, none⟩) hbs (by show bg < _ ∨ _ ≤ bg; omega)]; exact h1
          have hic : IC W' a3 m.pulls := by
            intro q hq
            obtain ⟨b, off, ha, hb, hcell⟩ := HT.out.p q hq
            have := HT.out.pl b off ha (by omega)
            exact ⟨b, off, ha, Nat.lt_of_lt_of_le hb hc.size, by rw [hc.cell (p := ⟨b, off + q, none⟩) hb (by show b < _ ∨ _ ≤ b; omega)]; exact hcell⟩
          refine ⟨⟨some ⟨bg, og, none⟩, cg, a3, c3, by rw [← HT.out.tle], hcv.d4 (Nat.lt_of_lt_of_le hbs hc.size), hic⟩, ?_, HNP.out⟩
          show T.length ≤ 1048576
          have := HT.out.tle
          have := HNG.out
          omega
        have k : ∀ (W : World) o v, Chg (w.heap.size + 1) (w.heap.size + 2) W (W.setCell ⟨w.heap.size + 1, o, none⟩ v) := fun W o v => Chg.of_grown (grown_setCell W ⟨w.heap.size + 1, o, none⟩ v) (fun g hg => by cases hg; exact ⟨Nat.le_refl _, Nat.lt_succ_self _⟩)
        refine ⟨_, rfl, hc _ (((k _ _ _).trans (k _ _ _)).trans (k _ _ _)), ?_⟩
        repeat (first | exact HB.out | refine Below.setCell ?_ (by show w.heap.size ≤ w.heap.size + 1; omega) _)
end Go.Proofs.Ytmilpahggceemaa

namespace Go.KD
open Go.RowKit
theorem pTurnLevers_len (m : Wk) (l : Int) : (pTurnLevers m l).1.gates.length ≤ 100000 ∧ (pTurnLevers m l).1.pulls.length ≤ 100000 := by
  unfold pTurnLevers
  split
  · rename_i hb
    rw [Bool.and_eq_true] at hb
    have ok := worksB_true.1 hb.1
    have h1 := ok.ng
    have h2 := ok.np
    have h3 := ok.s2
    have h4 := turnL_len l m.gates
    refine ⟨?_, ?_⟩
    · show (turnL l m.gates).length ≤ 100000
      omega
    · show m.pulls.length ≤ 100000
      omega
  · exact ⟨by simp, by simp⟩
end Go.KD

namespace Go.KD
open Go.RowKit
theorem plan_cases (m : Wk) (p : List Int) : (pRunPlan m p = (0, 0, false) ∧ pIsPlan m p = (false, false)) ∨ (WkOk m ∧ pRunPlan m p = runP m p ∧ pIsPlan m p = ((runP m p).2.2, true)) := by
  unfold pRunPlan pIsPlan
  cases h : worksB m
  · exact .inl ⟨rfl, rfl⟩
  · exact .inr ⟨worksB_true.1 h, rfl, rfl⟩
theorem plan_ok {m : Wk} {p : List Int} {x l : Int} {ok is one : Bool} (h1 : pRunPlan m p = (x, l, ok)) (h2 : pIsPlan m p = (is, one)) : ok = (one && is) := by
  rcases plan_cases m p with ⟨e1, e2⟩ | ⟨-, e1, e2⟩
  · rw [h1] at e1; rw [h2] at e2; cases e1; cases e2; rfl
  · rw [h1] at e1; rw [h2] at e2
    have : ok = (runP m p).2.2 := by rw [← e1]
    cases e2; simpa using this
theorem plan_wf {m : Wk} {p : List Int} {x l : Int} {ok : Bool} (h : pRunPlan m p = (x, l, ok)) : wfI x ∧ wfI l ∧ (ok = true → pAreApart m 0 0 x l = (false, true)) := by
  have hz : wfI 0 := wfI_small (by decide) (by decide)
  rcases plan_cases m p with ⟨e1, -⟩ | ⟨hk, e1, -⟩
  · rw [h] at e1; cases e1
    exact ⟨hz, hz, fun h => (by cases h)⟩
  · rw [h] at e1
    cases ok
    · have : (x = 0 ∧ l = 0) := by
        unfold runP at e1
        split at e1
        · split at e1
          · cases e1
          · cases e1; exact ⟨rfl, rfl⟩
        · cases e1; exact ⟨rfl, rfl⟩
      rw [this.1, this.2]
      exact ⟨hz, hz, fun h => (by cases h)⟩
    · refine ⟨?_, ?_, fun _ => run_near hk e1.symm⟩
      all_goals
        unfold runP at e1
        split at e1
        · split at e1
          · rename_i x0 l0 hr
            cases e1
            obtain ⟨xn, ln, rfl, rfl, hx, hl⟩ := runK_ok hk p _ _ _ hr
            have := hk.s2
            exact wfI_small (by omega) (by omega)
          · cases e1
        · cases e1
theorem gate_true {m : Wk} {k l : Int} {b : Bool} (h : pGateOpen m k l = (b, true)) : WkOk m ∧ ∃ kn ln : Nat, k = kn ∧ l = ln ∧ kn < m.gates.length ∧ ln < 64 ∧ b = openB m.gates[kn]! ln := by
  unfold pGateOpen at h
  split at h
  case isFalse => cases h
  case isTrue hc =>
    simp only [Bool.and_eq_true, inB_true, setB_true] at hc
    obtain ⟨⟨hw, k0, k1⟩, l0, l1⟩ := hc
    cases h
    refine ⟨worksB_true.1 hw, k.toNat, l.toNat, by omega, by omega, by omega, by omega, ?_⟩
    rw [Int.toNat_of_nonneg l0]
theorem turn_true {m R : Wk} {l : Int} (h : pTurnLevers m l = (R, true)) : R.size = m.size ∧ wfI l ∧ 0 ≤ m.size ∧ m.size ≤ 12 := by
  unfold pTurnLevers at h
  split at h
  case isFalse => cases h
  case isTrue hc =>
    cases h
    rw [Bool.and_eq_true, worksB_true, setB_true] at hc
    have h1 := hc.1.s1
    have h2 := hc.1.s2
    exact ⟨rfl, wfI_small (by omega) (by omega), by omega, by omega⟩
end Go.KD
namespace Go.Proofs.Ytmilpahggceemaa
open Go.RowKit Go.KD
attribute [local go_sem] later_cell later_frozen
set_option maxRecDepth 100000 in
set_option maxHeartbeats 16000000 in
theorem lawFnPlans_c (a : Option Addr) (cap n : Nat) (w : World) (hb0 : BC w a n) (hn : n ≤ maxLen) : Calls Try.prog 4 #[.slice a n cap] w fun e w' => e = .returned (.bool true) ∧ Below w.heap.size w w' := by
  have HBC := Lib.hid hb0
  clear hb0
  by_cases hbig : 65536 < n
  · have hd : decide (65536 < n) = true := decide_eq_true hbig
    go_enter Try.func4, Try.ntmps4
    go_wp2_with fail
    refine (rBig_c a n cap _ hn).mono ?_
    rintro e w1 ⟨rfl, rfl⟩
    go_wp2_with fail
    go_ret
    exact ⟨rfl, Below.refl _ _⟩
  · have hd : decide (65536 < n) = false := decide_eq_false hbig
    have hn6 : n ≤ 65536 := by omega
    go_enter Try.func4, Try.ntmps4
    go_wp2_with fail
    refine (rBig_c a n cap _ hn).mono ?_
    rintro e w0 ⟨rfl, rfl⟩
    clear hbig
    have HB : Hid (Below w.heap.size w w) := Below.refl _ _
    go_wp2_with fail
    refine (drawRunPlan_c a n cap _ HBC.out hn6).mono ?_
    rintro e w1 ⟨v, mA, ap, cp, LA, rfl, ⟨hstA, hsA, hgA, hpA, hb1⟩, hiA, hlA, hfA⟩
    clear hd
    have HIA := Lib.hid (hiA _ (Chg.refl _ _ _))
    have HFA := Lib.hid hfA
    obtain ⟨⟨adA, cdA, akA, ckA, rfl, -, -⟩, -, -⟩ := hstA _ (Chg.refl _ _ _)
    have HAT := Lib.hid (hstA _ (Chg.refl _ _ _))
    clear hstA hiA hfA
    replace HB := Lib.hid (below_then HB.out hb1)
    replace HBC := Lib.hid (HBC.out.later hb1)
    clear hb1
    have HSAN : Hid (WS (w1.alloc (.cells #[.int .i64 mA.size, .slice adA mA.gates.length cdA, .slice akA mA.pulls.length ckA] 36)) w1.heap.size (.slice adA mA.gates.length cdA) (.slice akA mA.pulls.length ckA) mA) := WS.new _ HAT.out
    replace HB := Lib.hid (below_then HB.out (belowA _ (.cells #[.int .i64 mA.size, .slice adA mA.gates.length cdA, .slice akA mA.pulls.length ckA] 36)))
    replace HBC := Lib.hid (HBC.out.later (belowA _ (.cells #[.int .i64 mA.size, .slice adA mA.gates.length cdA, .slice akA mA.pulls.length ckA] 36)))
    replace HIA := Lib.hid (HIA.out.later (belowA _ (.cells #[.int .i64 mA.size, .slice adA mA.gates.length cdA, .slice akA mA.pulls.length ckA] 36)))
    have HSA := Lib.hid HSAN.out
    clear HSAN
    clear HAT
    obtain ⟨xA, lA, okA, hpr⟩ : ∃ x l ok, pRunPlan mA LA = (x, l, ok) := ⟨_, _, _, rfl⟩
    obtain ⟨isA, oneA, hpi⟩ : ∃ is one, pIsPlan mA LA = (is, one) := ⟨_, _, rfl⟩
    have HPR := Lib.hid hpr
    have HPI := Lib.hid hpi
    have HOK := Lib.hid (plan_ok hpr hpi)
    obtain ⟨hwx, hwl, hnear⟩ := plan_wf hpr
    have HWX := Lib.hid hwx
    have HWL := Lib.hid hwl
    have HNE := Lib.hid hnear
    clear hpr hpi hwx hwl hnear
    have c0_HSA := HSA.out.c0
    have c1_HSA := HSA.out.c1
    have c2_HSA := HSA.out.c2
    have lt_HSA := HSA.out.lt
    go_wp2_with fail
    clear c0_HSA c1_HSA c2_HSA lt_HSA
    refine (implRunPlan_c _ mA _ _ LA _ HSA.out.at' HIA.out (by omega) HFA.out).mono ?_
    rw [HPR.out]
    rintro e w2 ⟨rfl, hb2⟩
    replace HB := Lib.hid (below_then HB.out hb2)
    replace HBC := Lib.hid (HBC.out.later hb2)
    replace HIA := Lib.hid (HIA.out.later hb2)
    replace HSA := Lib.hid (HSA.out.later hb2)
    clear hb2
    dsimp only
    have c0_HSA := HSA.out.c0
    have c1_HSA := HSA.out.c1
    have c2_HSA := HSA.out.c2
    have lt_HSA := HSA.out.lt
    go_wp2_with fail
    clear c0_HSA c1_HSA c2_HSA lt_HSA
    refine (specRunPlan_c _ mA _ _ LA _ HSA.out.at' HIA.out (by omega) HFA.out).mono ?_
    rw [HPR.out]
    rintro e w3 ⟨rfl, hb3⟩
    replace HB := Lib.hid (below_then HB.out hb3)
    replace HBC := Lib.hid (HBC.out.later hb3)
    replace HIA := Lib.hid (HIA.out.later hb3)
    replace HSA := Lib.hid (HSA.out.later hb3)
    clear hb3
    dsimp only
    have c0_HSA := HSA.out.c0
    have c1_HSA := HSA.out.c1
    have c2_HSA := HSA.out.c2
    have lt_HSA := HSA.out.lt
    go_wp2_with fail
    clear c0_HSA c1_HSA c2_HSA lt_HSA
    refine (implIsPlan_c _ mA _ _ LA _ HSA.out.at' HIA.out (by omega) HFA.out).mono ?_
    rw [HPI.out]
    rintro e w4 ⟨rfl, hb4⟩
    replace HB := Lib.hid (below_then HB.out hb4)
    replace HBC := Lib.hid (HBC.out.later hb4)
    replace HIA := Lib.hid (HIA.out.later hb4)
    replace HSA := Lib.hid (HSA.out.later hb4)
    clear hb4
    dsimp only
    have c0_HSA := HSA.out.c0
    have c1_HSA := HSA.out.c1
    have c2_HSA := HSA.out.c2
    have lt_HSA := HSA.out.lt
    go_wp2_with fail
    clear c0_HSA c1_HSA c2_HSA lt_HSA
    refine (specIsPlan_c _ mA _ _ LA _ HSA.out.at' HIA.out (by omega) HFA.out).mono ?_
    rw [HPI.out]
    rintro e w5 ⟨rfl, hb5⟩
    replace HB := Lib.hid (below_then HB.out hb5)
    replace HBC := Lib.hid (HBC.out.later hb5)
    replace HIA := Lib.hid (HIA.out.later hb5)
    replace HSA := Lib.hid (HSA.out.later hb5)
    clear hb5
    dsimp only
    clear HIA
    go_upto_region 10 with fail
    go_cut [109] (fun s wx => s = .bool false ∧ Hid (Below w5.heap.size w5 wx))
    case first =>
      as_aux_lemma =>
        have hk := HOK.out
        cases oneA
        all_goals cases isA
        all_goals
          simp only [Bool.and_true, Bool.and_false, Bool.false_and, Bool.true_and] at hk
          subst hk
          go_wp2_with fail
          go_meet
          case rel => exact ⟨rfl, Below.refl _ _⟩
    case rest =>
      as_aux_lemma =>
        obtain ⟨w6, rfl⟩ : ∃ w6 : World, w6 = wc := ⟨_, rfl⟩
        obtain ⟨rfl, hc6⟩ := hcut
        have hb6 := hc6.out
        clear hc6
        replace HB := Lib.hid (below_then HB.out hb6)
        replace HBC := Lib.hid (HBC.out.later hb6)
        replace HSA := Lib.hid (HSA.out.later hb6)
        clear hb6
        go_wp2_with fail
        refine (drawGateOpen_c a n cap _ HBC.out hn6).mono ?_
        rintro e w7 ⟨v, mB, kB, sB, rfl, ⟨hstB, hsB, hgB, hpB, hb7⟩, hkB, hxB⟩
        have HKB := Lib.hid hkB
        have HXB := Lib.hid hxB
        obtain ⟨⟨adB, cdB, akB, ckB, rfl, -, -⟩, -, -⟩ := hstB _ (Chg.refl _ _ _)
        have HAT := Lib.hid (hstB _ (Chg.refl _ _ _))
        clear hstB hkB hxB
        replace HB := Lib.hid (below_then HB.out hb7)
        replace HBC := Lib.hid (HBC.out.later hb7)
        replace HSA := Lib.hid (HSA.out.later hb7)
        clear hb7
        have HSBN : Hid (WS (w7.alloc (.cells #[.int .i64 mB.size, .slice adB mB.gates.length cdB, .slice akB mB.pulls.length ckB] 36)) w7.heap.size (.slice adB mB.gates.length cdB) (.slice akB mB.pulls.length ckB) mB) := WS.new _ HAT.out
        replace HB := Lib.hid (below_then HB.out (belowA _ (.cells #[.int .i64 mB.size, .slice adB mB.gates.length cdB, .slice akB mB.pulls.length ckB] 36)))
        replace HBC := Lib.hid (HBC.out.later (belowA _ (.cells #[.int .i64 mB.size, .slice adB mB.gates.length cdB, .slice akB mB.pulls.length ckB] 36)))
        replace HSA := Lib.hid (HSA.out.later (belowA _ (.cells #[.int .i64 mB.size, .slice adB mB.gates.length cdB, .slice akB mB.pulls.length ckB] 36)))
        have HSB := Lib.hid HSBN.out
        clear HSBN
        clear HAT
        obtain ⟨opB, twoB, hpg⟩ : ∃ op two, pGateOpen mB kB sB = (op, two) := ⟨_, _, rfl⟩
        have HPG := Lib.hid hpg
        clear hpg
        have c0_HSB := HSB.out.c0
        have c1_HSB := HSB.out.c1
        have c2_HSB := HSB.out.c2
        have lt_HSB := HSB.out.lt
        go_wp2_with fail
        clear c0_HSB c1_HSB c2_HSB lt_HSB
        refine (implGateOpen_c _ mB kB sB _ HSB.out.at' HKB.out HXB.out).mono ?_
        rw [HPG.out]
        rintro e w8 ⟨rfl, hb8⟩
        replace HB := Lib.hid (below_then HB.out hb8)
        replace HBC := Lib.hid (HBC.out.later hb8)
        replace HSA := Lib.hid (HSA.out.later hb8)
        replace HSB := Lib.hid (HSB.out.later hb8)
        clear hb8
        dsimp only
        have c0_HSB := HSB.out.c0
        have c1_HSB := HSB.out.c1
        have c2_HSB := HSB.out.c2
        have lt_HSB := HSB.out.lt
        go_wp2_with fail
        clear c0_HSB c1_HSB c2_HSB lt_HSB
        refine (specGateOpen_c _ mB kB sB _ HSB.out.at' HKB.out HXB.out).mono ?_
        rw [HPG.out]
        rintro e w9 ⟨rfl, hb9⟩
        replace HB := Lib.hid (below_then HB.out hb9)
        replace HBC := Lib.hid (HBC.out.later hb9)
        replace HSA := Lib.hid (HSA.out.later hb9)
        replace HSB := Lib.hid (HSB.out.later hb9)
        clear hb9
        dsimp only
        go_wp2_with fail
        refine (drawTurnLevers_c a n cap _ HBC.out hn6).mono ?_
        rintro e w10 ⟨v, mC, lC, rfl, ⟨hstC, hsC, hgC, hpC, hb10⟩, hlC⟩
        have HLC := Lib.hid hlC
        obtain ⟨⟨adC, cdC, akC, ckC, rfl, -, -⟩, -, -⟩ := hstC _ (Chg.refl _ _ _)
        have HAT := Lib.hid (hstC _ (Chg.refl _ _ _))
        clear hstC hlC
        replace HB := Lib.hid (below_then HB.out hb10)
        replace HBC := Lib.hid (HBC.out.later hb10)
        replace HSA := Lib.hid (HSA.out.later hb10)
        replace HSB := Lib.hid (HSB.out.later hb10)
        clear hb10
        have HSCN : Hid (WS (w10.alloc (.cells #[.int .i64 mC.size, .slice adC mC.gates.length cdC, .slice akC mC.pulls.length ckC] 36)) w10.heap.size (.slice adC mC.gates.length cdC) (.slice akC mC.pulls.length ckC) mC) := WS.new _ HAT.out
        replace HB := Lib.hid (below_then HB.out (belowA _ (.cells #[.int .i64 mC.size, .slice adC mC.gates.length cdC, .slice akC mC.pulls.length ckC] 36)))
        replace HBC := Lib.hid (HBC.out.later (belowA _ (.cells #[.int .i64 mC.size, .slice adC mC.gates.length cdC, .slice akC mC.pulls.length ckC] 36)))
        replace HSA := Lib.hid (HSA.out.later (belowA _ (.cells #[.int .i64 mC.size, .slice adC mC.gates.length cdC, .slice akC mC.pulls.length ckC] 36)))
        replace HSB := Lib.hid (HSB.out.later (belowA _ (.cells #[.int .i64 mC.size, .slice adC mC.gates.length cdC, .slice akC mC.pulls.length ckC] 36)))
        have HSC := Lib.hid HSCN.out
        clear HSCN
        clear HAT
        obtain ⟨R, threeC, hpt⟩ : ∃ R three, pTurnLevers mC lC = (R, three) := ⟨_, _, rfl⟩
        have hRl : R.gates.length ≤ 100000 ∧ R.pulls.length ≤ 100000 := by have := pTurnLevers_len mC lC; rw [hpt] at this; exact this
        have HPT := Lib.hid hpt
        clear hpt
        have c0_HSC := HSC.out.c0
        have c1_HSC := HSC.out.c1
        have c2_HSC := HSC.out.c2
        have lt_HSC := HSC.out.lt
        go_wp2_with fail
        clear c0_HSC c1_HSC c2_HSC lt_HSC
        refine (implTurnLevers_c _ mC lC _ R threeC HPT.out HSC.out.at' HLC.out).mono ?_
        rintro e w11 ⟨u, rfl, hou, hb11⟩
        have hRat := WkOwn.wk hou (by omega) (by omega)
        obtain ⟨⟨adR, cdR, akR, ckR, rfl, -, -⟩, -, -⟩ := id hRat
        have HAT := Lib.hid hRat
        clear hou hRat
        replace HB := Lib.hid (below_then HB.out hb11)
        replace HBC := Lib.hid (HBC.out.later hb11)
        replace HSA := Lib.hid (HSA.out.later hb11)
        replace HSB := Lib.hid (HSB.out.later hb11)
        replace HSC := Lib.hid (HSC.out.later hb11)
        clear hb11
        have HSRN : Hid (WS (w11.alloc (.cells #[.int .i64 R.size, .slice adR R.gates.length cdR, .slice akR R.pulls.length ckR] 36)) w11.heap.size (.slice adR R.gates.length cdR) (.slice akR R.pulls.length ckR) R) := WS.new _ HAT.out
        replace HB := Lib.hid (below_then HB.out (belowA _ (.cells #[.int .i64 R.size, .slice adR R.gates.length cdR, .slice akR R.pulls.length ckR] 36)))
        replace HBC := Lib.hid (HBC.out.later (belowA _ (.cells #[.int .i64 R.size, .slice adR R.gates.length cdR, .slice akR R.pulls.length ckR] 36)))
        replace HSA := Lib.hid (HSA.out.later (belowA _ (.cells #[.int .i64 R.size, .slice adR R.gates.length cdR, .slice akR R.pulls.length ckR] 36)))
        replace HSB := Lib.hid (HSB.out.later (belowA _ (.cells #[.int .i64 R.size, .slice adR R.gates.length cdR, .slice akR R.pulls.length ckR] 36)))
        replace HSC := Lib.hid (HSC.out.later (belowA _ (.cells #[.int .i64 R.size, .slice adR R.gates.length cdR, .slice akR R.pulls.length ckR] 36)))
        have HSR := Lib.hid HSRN.out
        clear HSRN
        clear HAT
        have c0_HSC := HSC.out.c0
        have c1_HSC := HSC.out.c1
        have c2_HSC := HSC.out.c2
        have lt_HSC := HSC.out.lt
        go_wp2_with fail
        clear c0_HSC c1_HSC c2_HSC lt_HSC
        refine (specTurnLevers_c _ mC lC _ R threeC HPT.out HSC.out.at' HLC.out).mono ?_
        rintro e w12 ⟨u, rfl, hRat, hb12⟩
        obtain ⟨⟨adQ, cdQ, akQ, ckQ, rfl, -, -⟩, -, -⟩ := id hRat
        have HAT := Lib.hid hRat
        clear hRat
        replace HB := Lib.hid (below_then HB.out hb12)
        replace HBC := Lib.hid (HBC.out.later hb12)
        replace HSA := Lib.hid (HSA.out.later hb12)
        replace HSB := Lib.hid (HSB.out.later hb12)
        replace HSC := Lib.hid (HSC.out.later hb12)
        replace HSR := Lib.hid (HSR.out.later hb12)
        clear hb12
        have HSQN : Hid (WS (w12.alloc (.cells #[.int .i64 R.size, .slice adQ R.gates.length cdQ, .slice akQ R.pulls.length ckQ] 36)) w12.heap.size (.slice adQ R.gates.length cdQ) (.slice akQ R.pulls.length ckQ) R) := WS.new _ HAT.out
        replace HB := Lib.hid (below_then HB.out (belowA _ (.cells #[.int .i64 R.size, .slice adQ R.gates.length cdQ, .slice akQ R.pulls.length ckQ] 36)))
        replace HBC := Lib.hid (HBC.out.later (belowA _ (.cells #[.int .i64 R.size, .slice adQ R.gates.length cdQ, .slice akQ R.pulls.length ckQ] 36)))
        replace HSA := Lib.hid (HSA.out.later (belowA _ (.cells #[.int .i64 R.size, .slice adQ R.gates.length cdQ, .slice akQ R.pulls.length ckQ] 36)))
        replace HSB := Lib.hid (HSB.out.later (belowA _ (.cells #[.int .i64 R.size, .slice adQ R.gates.length cdQ, .slice akQ R.pulls.length ckQ] 36)))
        replace HSC := Lib.hid (HSC.out.later (belowA _ (.cells #[.int .i64 R.size, .slice adQ R.gates.length cdQ, .slice akQ R.pulls.length ckQ] 36)))
        replace HSR := Lib.hid (HSR.out.later (belowA _ (.cells #[.int .i64 R.size, .slice adQ R.gates.length cdQ, .slice akQ R.pulls.length ckQ] 36)))
        have HSQ := Lib.hid HSQN.out
        clear HSQN
        clear HAT
        have c0_HSR := HSR.out.c0
        have c1_HSR := HSR.out.c1
        have c2_HSR := HSR.out.c2
        have lt_HSR := HSR.out.lt
        have c0_HSQ := HSQ.out.c0
        have c1_HSQ := HSQ.out.c1
        have c2_HSQ := HSQ.out.c2
        have lt_HSQ := HSQ.out.lt
        go_wp2_with fail
        clear c0_HSR c1_HSR c2_HSR lt_HSR
        clear c0_HSQ c1_HSQ c2_HSQ lt_HSQ
        refine (rWorks_c _ _ R _ HSR.out.at' HSQ.out.at').mono ?_
        rintro e w13 ⟨rfl, hb13⟩
        replace HB := Lib.hid (below_then HB.out hb13)
        replace HBC := Lib.hid (HBC.out.later hb13)
        replace HSA := Lib.hid (HSA.out.later hb13)
        replace HSB := Lib.hid (HSB.out.later hb13)
        replace HSC := Lib.hid (HSC.out.later hb13)
        replace HSR := Lib.hid (HSR.out.later hb13)
        replace HSQ := Lib.hid (HSQ.out.later hb13)
        clear hb13
        clear HSQ
        go_wp2_with fail
        refine (drawAreApart_c a n cap _ HBC.out hn6).mono ?_
        rintro e w14 ⟨v, mD, pD, qD, rD, sD, rfl, ⟨hstD, hsD, hgD, hpD, hb14⟩, hw1, hw2, hw3, hw4⟩
        have HD1 := Lib.hid hw1
        have HD2 := Lib.hid hw2
        have HD3 := Lib.hid hw3
        have HD4 := Lib.hid hw4
        obtain ⟨⟨adD, cdD, akD, ckD, rfl, -, -⟩, -, -⟩ := hstD _ (Chg.refl _ _ _)
        have HAT := Lib.hid (hstD _ (Chg.refl _ _ _))
        clear hstD hw1 hw2 hw3 hw4
        replace HB := Lib.hid (below_then HB.out hb14)
        replace HBC := Lib.hid (HBC.out.later hb14)
        replace HSA := Lib.hid (HSA.out.later hb14)
        replace HSB := Lib.hid (HSB.out.later hb14)
        replace HSC := Lib.hid (HSC.out.later hb14)
        replace HSR := Lib.hid (HSR.out.later hb14)
        clear hb14
        clear HBC
        have HSDN : Hid (WS (w14.alloc (.cells #[.int .i64 mD.size, .slice adD mD.gates.length cdD, .slice akD mD.pulls.length ckD] 36)) w14.heap.size (.slice adD mD.gates.length cdD) (.slice akD mD.pulls.length ckD) mD) := WS.new _ HAT.out
        replace HB := Lib.hid (below_then HB.out (belowA _ (.cells #[.int .i64 mD.size, .slice adD mD.gates.length cdD, .slice akD mD.pulls.length ckD] 36)))
        replace HSA := Lib.hid (HSA.out.later (belowA _ (.cells #[.int .i64 mD.size, .slice adD mD.gates.length cdD, .slice akD mD.pulls.length ckD] 36)))
        replace HSB := Lib.hid (HSB.out.later (belowA _ (.cells #[.int .i64 mD.size, .slice adD mD.gates.length cdD, .slice akD mD.pulls.length ckD] 36)))
        replace HSC := Lib.hid (HSC.out.later (belowA _ (.cells #[.int .i64 mD.size, .slice adD mD.gates.length cdD, .slice akD mD.pulls.length ckD] 36)))
        replace HSR := Lib.hid (HSR.out.later (belowA _ (.cells #[.int .i64 mD.size, .slice adD mD.gates.length cdD, .slice akD mD.pulls.length ckD] 36)))
        have HSD := Lib.hid HSDN.out
        clear HSDN
        clear HAT
        obtain ⟨apD, fourD, hpa⟩ : ∃ ap four, pAreApart mD pD qD rD sD = (ap, four) := ⟨_, _, rfl⟩
        have HPA := Lib.hid hpa
        clear hpa
        have c0_HSD := HSD.out.c0
        have c1_HSD := HSD.out.c1
        have c2_HSD := HSD.out.c2
        have lt_HSD := HSD.out.lt
        go_wp2_with fail
        clear c0_HSD c1_HSD c2_HSD lt_HSD
        refine (implAreApart_c _ mD pD qD rD sD _ HSD.out.at' HD1.out HD2.out HD3.out HD4.out).mono ?_
        rw [HPA.out]
        rintro e w15 ⟨rfl, hb15⟩
        replace HB := Lib.hid (below_then HB.out hb15)
        replace HSA := Lib.hid (HSA.out.later hb15)
        replace HSB := Lib.hid (HSB.out.later hb15)
        replace HSC := Lib.hid (HSC.out.later hb15)
        replace HSR := Lib.hid (HSR.out.later hb15)
        replace HSD := Lib.hid (HSD.out.later hb15)
        clear hb15
        dsimp only
        have c0_HSD := HSD.out.c0
        have c1_HSD := HSD.out.c1
        have c2_HSD := HSD.out.c2
        have lt_HSD := HSD.out.lt
        go_wp2_with fail
        clear c0_HSD c1_HSD c2_HSD lt_HSD
        refine (specAreApart_c _ mD pD qD rD sD _ HSD.out.at' HD1.out HD2.out HD3.out HD4.out).mono ?_
        rw [HPA.out]
        rintro e w16 ⟨rfl, hb16⟩
        replace HB := Lib.hid (below_then HB.out hb16)
        replace HSA := Lib.hid (HSA.out.later hb16)
        replace HSB := Lib.hid (HSB.out.later hb16)
        replace HSC := Lib.hid (HSC.out.later hb16)
        replace HSR := Lib.hid (HSR.out.later hb16)
        replace HSD := Lib.hid (HSD.out.later hb16)
        clear hb16
        dsimp only
        go_upto_region 27 with fail
        go_cut [219] (fun s wx => s = .bool false ∧ Hid (Below w16.heap.size w16 wx))
        case first =>
          as_aux_lemma =>
            cases twoB
            · go_quiet (fail)
              go_wp2_with fail
              go_meet
              case rel => exact ⟨rfl, below_drewN (Below.refl _ _) _⟩
            · obtain ⟨hokB, kn, ln, rfl, rfl, hkn, hln, hop⟩ := gate_true HPG.out
              have hdB : D4C w16 adB mB.gates := by
                obtain ⟨⟨ad', cd', ak', ck', he, h1, h2⟩, -, -⟩ := HSB.out.at'
                cases he
                exact h1
              obtain ⟨b, off, x, y, z, u, rfl, HX, hbs, e0, e1, e2, e3⟩ := hdB.at kn hkn
              have hgf := gate_facts hokB hkn HX.out
              obtain ⟨zn, rfl⟩ := Int.eq_ofNat_of_zero_le hgf.2.2.2.1
              have hz64 : zn < 64 := by omega
              obtain ⟨pn, hpn⟩ : ∃ pn, pn = zn &&& ln := ⟨_, rfl⟩
              have hp64 : pn < 64 := by rw [hpn]; exact and_lt64 ln hz64
              have hand : bits .and .i64 (zn : Int) (ln : Int) = (pn : Int) := by rw [hpn]; exact (bits_nat .i64 40 (by decide) wraps_i64 zn ln (by omega) (by omega)).1
              obtain ⟨Pp, hPp⟩ : ∃ Pp : Nat, (Pp : Int) = popc pn := ⟨popN pn, rfl⟩
              have hr := fun w => rMany_c pn hp64 w
              rw [← hPp] at hr
              have hob : opB = decide (((Pp : Int) % 2) = u) := by
                rw [hop]
                unfold openB
                rw [HX.out, hPp, hpn]
                simp
              have hPb : Pp ≤ 12 := by have := popc_le pn; omega
              have ht1 : (((Pp : Int) % 2) == u) = opB := by rw [hob, Bool.eq_iff_iff]; simp
              have ht2 : (Int.tmod (Pp : Int) 2 == u) = opB := by rw [Int.tmod_eq_emod_of_nonneg (by omega)]; exact ht1
              have hknI : (kn : Int) < (mB.gates.length : Int) := by omega
              have hkn0 : (0 : Int) ≤ (kn : Int) := by omega
              clear hob hop hPp hpn hgf hdB
              have c0_HSB := HSB.out.c0
              have c1_HSB := HSB.out.c1
              have c2_HSB := HSB.out.c2
              have lt_HSB := HSB.out.lt
              refine wp_region_later (w16.heap.size) (by kernel_rfl) (by kernel_rfl) ?_
              repeat (first | go_big_quiet_skip | (go_big_quiet_want; go_big_quiet_op; (first | go_big_quiet_on | (apply Exists.intro; refine ⟨fun W => ?_, ?_⟩; (first | (go_at_call 38; exact Calls.later_same (hr _))); go_big_quiet_on))))
              refine wpQuiet_nil ?_
              rintro w9 ⟨⟨w9', hb9⟩, h9⟩
              change w9 = w9' at h9
              subst h9
              go_wp2_with fail
              go_meet
              case rel => exact ⟨rfl, hb9⟩
        case rest =>
          as_aux_lemma =>
            obtain ⟨w17, rfl⟩ : ∃ w17 : World, w17 = wc := ⟨_, rfl⟩
            obtain ⟨rfl, hc17⟩ := hcut
            have hb17 := hc17.out
            clear hc17
            replace HB := Lib.hid (below_then HB.out hb17)
            replace HSA := Lib.hid (HSA.out.later hb17)
            replace HSB := Lib.hid (HSB.out.later hb17)
            replace HSC := Lib.hid (HSC.out.later hb17)
            replace HSR := Lib.hid (HSR.out.later hb17)
            replace HSD := Lib.hid (HSD.out.later hb17)
            clear hb17
            go_upto_if 220 with fail
            go_cut [] (fun wx => Hid (Below w17.heap.size w17 wx))
            case first =>
              as_aux_lemma =>
                cases threeC
                · go_wp2_with fail
                  go_meet
                  case rel => exact Below.refl _ _
                · have htt := turn_turn HPT.out
                  have HTT := Lib.hid htt
                  obtain ⟨-, -, hs0C, hs12C⟩ := turn_true HPT.out
                  obtain ⟨sn, hsn⟩ := Int.eq_ofNat_of_zero_le hs0C
                  have HSN := Lib.hid hsn
                  have hsn12 : sn ≤ 12 := by omega
                  have HZW : Hid (Below w17.heap.size w17 w17) := Below.refl _ _
                  clear htt hsn hs0C hs12C
                  clear HB
                  have c0_HSR := HSR.out.c0
                  have c1_HSR := HSR.out.c1
                  have c2_HSR := HSR.out.c2
                  have lt_HSR := HSR.out.lt
                  go_wp2_with fail
                  clear c0_HSR c1_HSR c2_HSR lt_HSR
                  refine (implTurnLevers_c _ R lC _ mC true HTT.out HSR.out.at' HLC.out).mono ?_
                  rintro e w18 ⟨u, rfl, hou, hb18⟩
                  have hRat := WkOwn.wk hou (by omega) (by omega)
                  obtain ⟨⟨adU, cdU, akU, ckU, rfl, -, -⟩, -, -⟩ := id hRat
                  have HAT := Lib.hid hRat
                  clear hou hRat
                  replace HSR := Lib.hid (HSR.out.later hb18)
                  replace HSC := Lib.hid (HSC.out.later hb18)
                  replace HZW := Lib.hid (below_then HZW.out hb18)
                  clear hb18
                  have HB := Lib.hid HZW.out
                  clear HZW
                  have HSUN : Hid (WS (w18.alloc (.cells #[.int .i64 mC.size, .slice adU mC.gates.length cdU, .slice akU mC.pulls.length ckU] 36)) w18.heap.size (.slice adU mC.gates.length cdU) (.slice akU mC.pulls.length ckU) mC) := WS.new _ HAT.out
                  replace HSR := Lib.hid (HSR.out.later (belowA _ (.cells #[.int .i64 mC.size, .slice adU mC.gates.length cdU, .slice akU mC.pulls.length ckU] 36)))
                  replace HSC := Lib.hid (HSC.out.later (belowA _ (.cells #[.int .i64 mC.size, .slice adU mC.gates.length cdU, .slice akU mC.pulls.length ckU] 36)))
                  replace HB := Lib.hid (below_then HB.out (belowA _ (.cells #[.int .i64 mC.size, .slice adU mC.gates.length cdU, .slice akU mC.pulls.length ckU] 36)))
                  have HSU := Lib.hid HSUN.out
                  clear HSUN
                  clear HAT
                  have c0_HSU := HSU.out.c0
                  have c1_HSU := HSU.out.c1
                  have c2_HSU := HSU.out.c2
                  have lt_HSU := HSU.out.lt
                  have c0_HSC := HSC.out.c0
                  have c1_HSC := HSC.out.c1
                  have c2_HSC := HSC.out.c2
                  have lt_HSC := HSC.out.lt
                  go_wp2_with fail
                  clear c0_HSU c1_HSU c2_HSU lt_HSU
                  clear c0_HSC c1_HSC c2_HSC lt_HSC
                  refine (rWorks_c _ _ mC _ HSU.out.at' HSC.out.at').mono ?_
                  rintro e w19 ⟨rfl, hb19⟩
                  replace HSR := Lib.hid (HSR.out.later hb19)
                  replace HSC := Lib.hid (HSC.out.later hb19)
                  replace HB := Lib.hid (below_then HB.out hb19)
                  replace HSU := Lib.hid (HSU.out.later hb19)
                  clear hb19 HSU
                  have c0_HSC := HSC.out.c0
                  have c1_HSC := HSC.out.c1
                  have c2_HSC := HSC.out.c2
                  have lt_HSC := HSC.out.lt
                  go_wp2_with fail
                  go_loopw [39] (fun v wr => ∃ k : Nat, v = .int .i64 k ∧ k ≤ sn ∧ Hid (Below w19.heap.size w19 wr)) (fun v _ => sn - (intOf v).toNat)
                  case atStart => exact ⟨0, rfl, Nat.zero_le _, Below.refl _ _⟩
                  case round =>
                    clear c0_HSC c1_HSC c2_HSC lt_HSC
                    obtain ⟨wi, rfl⟩ : ∃ wi : World, wi = wr := ⟨_, rfl⟩
                    obtain ⟨k, rfl, hk, HBi⟩ := hrel
                    have HSCi := Lib.hid (HSC.out.later HBi.out)
                    have HSRi := Lib.hid (HSR.out.later HBi.out)
                    by_cases hlt : (k : Int) < mC.size
                    · have hlt2 : k < sn := by have := HSN.out; omega
                      obtain ⟨A, hA1, hA2⟩ := acts_turned HPT.out hlt
                      have hAl : A.length ≤ 1000000 := by have := pActsAt_len mC k lC; rw [hA1] at this; exact this
                      have HA1 := Lib.hid hA1
                      have HA2 := Lib.hid hA2
                      have hwk : wfI (k : Int) := wfI_small (by omega) (by omega)
                      have HWK := Lib.hid hwk
                      clear hA1 hA2 hwk
                      have c0_HSC := HSCi.out.c0
                      have c1_HSC := HSCi.out.c1
                      have c2_HSC := HSCi.out.c2
                      have lt_HSC := HSCi.out.lt
                      go_wp2_with fail
                      clear c0_HSC c1_HSC c2_HSC lt_HSC
                      refine (implActsAt_c _ mC k lC _ A true HA1.out HSCi.out.at' HWK.out HLC.out).mono ?_
                      rintro e wa ⟨u1, rfl, ho1, hba⟩
                      obtain ⟨a1, c1, rfl⟩ := own_slice ho1
                      have HI1 : Hid (IC wa a1 A) := ic_of' (Own.of ho1) rfl
                      replace HSRi := Lib.hid (HSRi.out.later hba)
                      replace HBi := Lib.hid (below_then HBi.out hba)
                      clear ho1 hba
                      have c0_HSR := HSRi.out.c0
                      have c1_HSR := HSRi.out.c1
                      have c2_HSR := HSRi.out.c2
                      have lt_HSR := HSRi.out.lt
                      go_wp2_with fail
                      clear c0_HSR c1_HSR c2_HSR lt_HSR
                      refine (implActsAt_c _ R k 0 _ A true HA2.out HSRi.out.at' HWK.out (wfI_small (by decide) (by decide))).mono ?_
                      rintro e wb ⟨u2, rfl, ho2, hbb⟩
                      obtain ⟨a2, c2, rfl⟩ := own_slice ho2
                      have HI2 : Hid (IC wb a2 A) := ic_of' (Own.of ho2) rfl
                      replace HI1 := Lib.hid (HI1.out.later hbb)
                      replace HBi := Lib.hid (below_then HBi.out hbb)
                      clear ho2 hbb
                      go_wp2_with fail
                      refine (rInts_c _ _ _ _ A A _ HI1.out HI2.out (by omega) (by omega)).mono ?_
                      rintro e wd ⟨rfl, hbd⟩
                      replace HBi := Lib.hid (below_then HBi.out hbd)
                      clear hbd
                      go_wp2_with fail
                      go_roundw
                      case rel => exact ⟨k + 1, by go_num, by omega, HBi⟩
                      case measure => simp [intOf]; omega
                    · have c0_HSC := HSCi.out.c0
                      have lt_HSC := HSCi.out.lt
                      go_wp2_with fail
                      clear c0_HSC lt_HSC
                      go_meet
                      case rel => exact below_then HB.out HBi.out
            case rest =>
              as_aux_lemma =>
                obtain ⟨w20, rfl⟩ : ∃ w20 : World, w20 = wc := ⟨_, rfl⟩
                have hb20 := hcut.out
                clear hcut
                replace HB := Lib.hid (below_then HB.out hb20)
                replace HSA := Lib.hid (HSA.out.later hb20)
                replace HSB := Lib.hid (HSB.out.later hb20)
                replace HSC := Lib.hid (HSC.out.later hb20)
                replace HSR := Lib.hid (HSR.out.later hb20)
                replace HSD := Lib.hid (HSD.out.later hb20)
                clear hb20
                go_upto_if 266 with fail
                go_cut [] (fun wx => Hid (Below w20.heap.size w20 wx))
                case first =>
                  as_aux_lemma =>
                    cases fourD
                    · go_wp2_with fail
                      go_meet
                      case rel => exact Below.refl _ _
                    · have hsy : pAreApart mD rD sD pD qD = (apD, true) := by rw [← HPA.out]; exact apart_sym.symm
                      have HSY := Lib.hid hsy
                      clear hsy
                      have c0_HSD := HSD.out.c0
                      have c1_HSD := HSD.out.c1
                      have c2_HSD := HSD.out.c2
                      have lt_HSD := HSD.out.lt
                      go_wp2_with fail
                      clear c0_HSD c1_HSD c2_HSD lt_HSD
                      refine (implAreApart_c _ mD rD sD pD qD _ HSD.out.at' HD3.out HD4.out HD1.out HD2.out).mono ?_
                      rw [HSY.out]
                      rintro e wy ⟨rfl, hby⟩
                      have HBY := Lib.hid hby
                      clear hby
                      dsimp only
                      go_wp2_with fail
                      go_meet
                      case rel => exact HBY
                case rest =>
                  as_aux_lemma =>
                    obtain ⟨w21, rfl⟩ : ∃ w21 : World, w21 = wc := ⟨_, rfl⟩
                    have hb21 := hcut.out
                    clear hcut
                    replace HB := Lib.hid (below_then HB.out hb21)
                    replace HSA := Lib.hid (HSA.out.later hb21)
                    replace HSB := Lib.hid (HSB.out.later hb21)
                    replace HSC := Lib.hid (HSC.out.later hb21)
                    replace HSR := Lib.hid (HSR.out.later hb21)
                    replace HSD := Lib.hid (HSD.out.later hb21)
                    clear hb21
                    cases okA
                    · go_wp2_with fail
                      go_ret
                      exact ⟨rfl, HB.out⟩
                    · have hfa := HNE.out rfl
                      have HFA2 := Lib.hid hfa
                      clear hfa
                      have c0_HSA := HSA.out.c0
                      have c1_HSA := HSA.out.c1
                      have c2_HSA := HSA.out.c2
                      have lt_HSA := HSA.out.lt
                      go_wp2_with fail
                      clear c0_HSA c1_HSA c2_HSA lt_HSA
                      refine (implAreApart_c _ mA 0 0 xA lA _ HSA.out.at' (wfI_small (by decide) (by decide)) (wfI_small (by decide) (by decide)) HWX.out HWL.out).mono ?_
                      rw [HFA2.out]
                      rintro e wy ⟨rfl, hby⟩
                      replace HB := Lib.hid (below_then HB.out hby)
                      clear hby
                      dsimp only
                      go_wp2_with fail
                      go_ret
                      exact ⟨rfl, HB.out⟩
end Go.Proofs.Ytmilpahggceemaa
