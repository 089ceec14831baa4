/- Contracts of small functions on lists of numbers: is a number in it, where, a copy. -/
import Derived.Test.YtmilpahggceemaaKdMem
import Derived.Test.YtmilpahggceemaaKdOpen
import Derived.Lib.SliceRun
set_option linter.unusedVariables false
set_option linter.unusedSimpArgs false
namespace Go.KD
def eqP (x : Int) : Int → Bool := fun y => decide (y = x)
def hasI (l : List Int) (x : Int) : Bool := anyP (eqP x) l
theorem hasI_iff {l : List Int} {x : Int} : hasI l x = true ↔ x ∈ l := by simp [hasI, anyP, eqP]
theorem hasI_at {l : List Int} {x : Int} {k : Nat} (hk : k < l.length) (h : l[k]! = x) : hasI l x = true := by
  rw [hasI_iff, ← h, getElem!_pos l k hk]; exact List.getElem_mem hk
theorem hasI_none {l : List Int} {x : Int} (h : ∀ j, j < l.length → l[j]! ≠ x) : hasI l x = false := by
  rw [Bool.eq_false_iff, ne_eq, hasI_iff]
  intro hm
  obtain ⟨j, hj, rfl⟩ := List.mem_iff_getElem.1 hm
  exact h j hj (getElem!_pos l j hj)
end Go.KD
namespace Go.Proofs.Ytmilpahggceemaa
open Go.RowKit Go.KD
attribute [local go_sem] later_cell later_frozen
theorem l1Has_c (a : Option Addr) (cap n : Nat) (l : List Int) (x : Int) (w : World) (hn : n = l.length) (hA : IC w a l) (hl : n ≤ 1048576) : Calls Try.prog 183 #[.slice a n cap, .int .i64 x] w fun e w' => e = .returned (.bool (hasI l x)) ∧ w = w' := by
  have HN := Lib.hid hn; clear hn
  go_enter Try.func183, Try.ntmps183
  go_wp2
  go_loop [5] (fun i => ∃ k : Nat, k ≤ n ∧ i = .int .i64 k ∧ Hid (∀ j, j < k → l[j]! ≠ x)) (fun i => n - (intOf i).toNat)
  case atStart => exact ⟨0, Nat.zero_le _, rfl, fun j hj => by omega⟩
  case round =>
    obtain ⟨k, hk, rfl, HK⟩ := hrel
    by_cases hlt : k < n
    · have hlt' : k < l.length := by rw [← HN.out]; exact hlt
      obtain ⟨b, off, y, rfl, HX, hbs, e0⟩ := hA.at k hlt'
      by_cases h : y = x
      · have g : (y == x) = true := by simpa using h
        have H := Lib.hid h; clear h
        go_wp2
        go_ret
        exact ⟨ret_bool (by rw [hasI_at hlt' (HX.out.trans H.out)]), rfl⟩
      · have g : (y == x) = false := by simpa using h
        go_wp2
        go_round
        case rel => exact ⟨k+1, by omega, by go_num, fun j hj => by
          rcases Nat.lt_or_ge j k with h' | h'
          · exact HK.out j h'
          · obtain rfl : j = k := by omega
            rw [HX.out]; exact h⟩
        case measure => simp [intOf]; omega
    · go_wp2
      go_ret
      exact ⟨ret_bool (by rw [hasI_none (fun j hj => HK.out j (by have := HN.out; omega))]), rfl⟩
theorem index_c (a : Option Addr) (cap n : Nat) (l : List Int) (x : Int) (w : World) (hn : n = l.length) (hA : IC w a l) (hl : n ≤ 1048576) : Calls Try.prog 280 #[.slice a n cap, .int .i64 x] w fun e w' => e = .returned (.int .i64 (idxP (eqP x) l)) ∧ w = w' := by
  have HN := Lib.hid hn; clear hn
  go_enter Try.func280, Try.ntmps280
  go_wp2
  go_loop [5, 8] (fun _ i => ∃ k : Nat, k ≤ n ∧ i = .int .i64 k ∧ Hid (∀ j, j < k → eqP x l[j]! = false)) (fun _ i => n - (intOf i).toNat)
  case atStart => exact ⟨0, Nat.zero_le _, rfl, fun j hj => by omega⟩
  case round =>
    obtain ⟨k, hk, rfl, HK⟩ := hrel
    by_cases hlt : k < n
    · have hlt' : k < l.length := by rw [← HN.out]; exact hlt
      obtain ⟨b, off, y, rfl, HX, hbs, e0⟩ := hA.at k hlt'
      by_cases h : y = x
      · have g : (x == y) = true := by simp [h]
        have H := Lib.hid h; clear h
        go_wp2
        go_ret
        exact ⟨ret_int (by rw [idxP_at hlt' HK.out (by rw [HX.out, H.out]; simp [eqP])]), rfl⟩
      · have g : (x == y) = false := by simp; exact fun e => h e.symm
        go_wp2
        go_round
        case rel => exact ⟨k+1, by omega, by go_num, fun j hj => by
          rcases Nat.lt_or_ge j k with h' | h'
          · exact HK.out j h'
          · obtain rfl : j = k := by omega
            rw [HX.out]; simpa [eqP] using h⟩
        case measure => simp [intOf]; omega
    · go_wp2
      go_ret
      exact ⟨ret_int (by rw [idxP_none (fun j hj => HK.out j (by have := HN.out; omega))]), rfl⟩
theorem contains_c (a : Option Addr) (cap n : Nat) (l : List Int) (x : Int) (w : World) (hn : n = l.length) (hA : IC w a l) (hl : n ≤ 1048576) : Calls Try.prog 182 #[.slice a n cap, .int .i64 x] w fun e w' => e = .returned (.bool (hasI l x)) ∧ w = w' := by
  have HN := Lib.hid hn; clear hn
  go_enter Try.func182, Try.ntmps182
  go_wp2_with (go_at_call 280; refine (index_c _ _ _ l _ _ HN.out hA hl).mono ?_; rintro e w1 ⟨rfl, rfl⟩)
  go_ret
  exact ⟨ret_bool (anyP_idx _ _).symm, rfl⟩
set_option maxHeartbeats 1000000 in
theorem clone_c (a : Option Addr) (cap n : Nat) (l : List Int) (w : World) (hn : n = l.length) (hA : IC w a l) (hl : n ≤ 1048576) : Calls Try.prog 150 #[.slice a n cap] w fun e w' =>
    ∃ v, e = .returned v ∧ w'.ownsRow w.heap.size 3 1 v n (ints l) ∧ Below w.heap.size w w' := by
  obtain ⟨i0, hi, hz0, hz1, hz2⟩ := info_parts infoI
  have HN := Lib.hid hn; clear hn
  have he := fun (w : World) => Lib.run_eql_slice_nil (P := Try.prog) w 24 3 a n cap 0 0 Try.underlying24
  cases a with
  | none =>
    have h0 : l = [] := by
      cases l with
      | nil => rfl
      | cons x l => obtain ⟨b, off, h, _⟩ := hA 0 (by simp); cases h
    have H0 := Lib.hid h0; clear h0
    go_enter Try.func150, Try.ntmps150
    go_wp2
    go_ret
    refine ⟨_, rfl, ⟨?_, .inl ⟨rfl, ?_⟩⟩, Below.refl _ _⟩
    · rw [H0.out, HN.out, H0.out]; rfl
    · rw [HN.out, H0.out]; rfl
  | some ad =>
    have hnews : Hid (∀ j u, (ints l)[j]? = some u → w.cell? (ad.add j) = some u) := by
      intro j u hu
      have hj : j < l.length := by
        rcases Nat.lt_or_ge j l.length with h | h
        · exact h
        · rw [List.getElem?_eq_none (by simpa using h)] at hu; cases hu
      obtain ⟨b, off, hb, hbs, hc⟩ := hA j hj
      cases hb
      rw [add_at rfl, hc, ← hu, ints, List.getElem?_map, List.getElem?_eq_getElem hj, getElem!_pos l j hj]
      rfl
    have hlt : Hid (∀ j u, (ints l)[j]? = some u → ad.block < w.heap.size) := fun j u hu => World.block_lt_of_cell? w (ad.add j) (hnews.out j u hu) |> fun h => by unfold Addr.add at h; split at h <;> exact h
    go_enter Try.func150, Try.ntmps150
    go_wp2_with (at_builtin; refine wpList_append_own _ rfl _ _ 24 rfl w.heap.size 3 i0 (.int .i64 0) 1 8 Try.underlying24 hi hz0 hz1 hz2 rfl (by decide) _ _ _ rfl (World.ownsRow_lit w #[] 0 (Nat.le_refl _) (by unfold maxLen; omega) rfl) ad n cap (ints l) rfl ?_ ?_ ?_ ?_ ?_ ?_ ?_; (rw [length_ints, HN.out]; omega); (intro j u hu; rw [World.cell?_alloc_lt _ _ _ (by have := hlt.out j u hu; unfold Addr.add; split <;> exact this)]; exact hnews.out j u hu); (intro u hu; simp only [ints, List.mem_map] at hu; obtain ⟨x, _, rfl⟩ := hu; rfl); (unfold maxLen; omega); omega; (simp); intro v' w1 hown' hgrow _)
    go_ret
    refine ⟨_, rfl, by simpa using hown', ((Below.refl _ _).alloc (Nat.le_refl _) _).grown hgrow (by simp) (fun g hg => by cases hg; exact Nat.le_refl _)⟩
end Go.Proofs.Ytmilpahggceemaa
