/- impl.those: the sets for which something is so. -/
import Derived.Test.YtldogbahbjompaaKdSpr
set_option linter.unusedVariables false
set_option linter.unusedSimpArgs false
namespace Go.KD
open Go.RowKit
def natsI (l : List Nat) : List Int := l.map fun (n : Nat) => (n : Int)
@[simp] theorem natsI_len (l : List Nat) : (natsI l).length = l.length := by simp [natsI]
theorem natsI_at {l : List Nat} {i : Nat} (hi : i < l.length) : (natsI l)[i]! = ((l[i]! : Nat) : Int) := by
  rw [getElem!_pos (natsI l) i (by simpa using hi), getElem!_pos l i hi]; simp [natsI]
theorem natsI_snoc (l : List Nat) (n : Nat) : natsI (l ++ [n]) = natsI l ++ [(n : Int)] := by simp [natsI]
def thoseN (p : Nat → Bool) (k : Nat) : List Nat := (List.range k).filter p
theorem thoseN_yes {p : Nat → Bool} {k : Nat} (h : p k = true) : thoseN p (k + 1) = thoseN p k ++ [k] := by simp [thoseN, List.range_succ, List.filter_append, h]
theorem thoseN_no {p : Nat → Bool} {k : Nat} (h : p k = false) : thoseN p (k + 1) = thoseN p k := by simp [thoseN, List.range_succ, List.filter_append, h]
theorem thoseN_len (p : Nat → Bool) (k : Nat) : (thoseN p k).length ≤ k := Nat.le_trans (List.length_filter_le _ _) (by simp)
theorem thoseN_lt {p : Nat → Bool} {k : Nat} {s : Nat} (h : s ∈ thoseN p k) : s < k := List.mem_range.1 (List.mem_filter.1 h).1
end Go.KD
namespace Go.Proofs.Ytldogbahbjompaa
open Go.RowKit Go.KD
attribute [local go_sem] later_cell later_frozen
set_option maxRecDepth 100000 in
set_option maxHeartbeats 4000000 in
theorem thoseG_c (F : FuncId) (fn : Func) (hf1 : Try.prog.funcs[F]? = some fn) (hf2 : (fn.name == "runtime.NumGoroutine") = false) (hf3 : fn.body.isNone = false) (caps : Array Value) (p : Nat → Bool) (w : World)
    (hp : ∀ s, s < 64 → ∀ w', Below w.heap.size w w' → Calls Try.prog F (#[.int .i64 s] ++ caps) w' fun e w'' => e = .returned (.bool (p s)) ∧ Below w'.heap.size w' w'') :
    Calls Try.prog 61 #[.func (.func F) #[] caps] w fun e w' => ∃ u, e = .returned u ∧ w'.ownsRow w.heap.size 3 1 u (thoseN p 64).length (ints (natsI (thoseN p 64))) ∧ Below w.heap.size w w' := by
  obtain ⟨i0, ji, jz0, jz1, jz2⟩ := info_parts infoI
  have HP := Lib.hid hp
  have hcf := run_callFunc hf1 hf2 hf3
  clear hp hf1 hf2 hf3
  go_enter Try.func61, Try.ntmps61
  go_wp2
  go_loopw [3, 6] (fun u t wr => ∃ k : Nat, t = .int .i64 k ∧ k ≤ 64 ∧ Hid (wr.ownsRow w.heap.size 3 1 u (thoseN p k).length (ints (natsI (thoseN p k)))) ∧ Below w.heap.size w wr) (fun _ t _ => 64 - (intOf t).toNat)
  case atStart => exact ⟨0, rfl, by omega, (by have := World.ownsRow_lit (base := w.heap.size) (e := 3) (size := 1) w #[] 0 (Nat.le_refl _) (by unfold maxLen; omega) rfl; exact this), (Below.refl _ _).alloc (Nat.le_refl _) _⟩
  case round =>
    obtain ⟨wi, rfl⟩ : ∃ wi : World, wi = wr := ⟨_, rfl⟩
    obtain ⟨k, rfl, hk, HO, hb⟩ := hrel
    have HB := Lib.hid hb
    have hz := hb.size
    obtain ⟨aM, cM, rfl⟩ := own_slice HO.out
    by_cases hlt : k < 64
    · have hkI : (k : Int) < 64 := by omega
      have hlen := thoseN_len p k
      have hcall := HP.out k hlt wi hb
      clear hb
      cases hq : p k with
      | false =>
        rw [hq] at hcall
        have HN := Lib.hid (thoseN_no hq)
        clear hq
        go_wp2_with fail
        refine hcall.mono ?_
        rintro e w2 ⟨rfl, hb2⟩
        have HR2 := Lib.hid (own_belowW HO.out hb2)
        have HB2 := Lib.hid (below_then HB.out hb2)
        clear hb2 hcall
        go_wp2_with fail
        go_roundw
        case rel => exact ⟨k + 1, by go_num, by omega, by rw [HN.out]; exact HR2, HB2.out⟩
        case measure => simp [intOf]; omega
      | true =>
        rw [hq] at hcall
        have HN := Lib.hid (thoseN_yes hq)
        clear hq
        go_wp2_with fail
        refine hcall.mono ?_
        rintro e w2 ⟨rfl, hb2⟩
        have HR2 := Lib.hid (own_belowW HO.out hb2)
        have HB2 := Lib.hid (below_then HB.out hb2)
        have hz2 := HB2.out.size
        clear hb2 hcall
        go_wp2_with (at_builtin; refine wpList_append_own _ rfl _ _ 23 rfl w.heap.size 3 i0 (.int .i64 0) 1 8 Try.underlying23 ji jz0 jz1 jz2 rfl (by decide) _ _ _ rfl (HR2.out.alloc _) ⟨w2.heap.size, 0, none⟩ 1 1 [.int .i64 k] rfl rfl ?_ ?_ ?_ ?_ ?_ ?_; (exact cell_one_new _ _ _); (simp [Value.oneCell']); (unfold maxLen; omega); omega; (simp; omega); intro v' w3 hown' hgrow _)
        go_roundw
        case rel => exact ⟨k + 1, by go_num, by omega, by rw [HN.out, natsI_snoc, ints_snoc, List.length_append]; exact hown', (HB2.out.alloc hz2 _).grown hgrow (by simp; omega) (fun g hg => own_block_lo HR2.out hg)⟩
        case measure => simp [intOf]; omega
    · obtain rfl : k = 64 := by omega
      clear hb
      go_wp2
      go_ret
      exact ⟨_, rfl, HO.out, HB.out⟩
end Go.Proofs.Ytldogbahbjompaa
