/- Clutters: the program's walks, second part. -/
import Derived.Test.YtmilpahggceemaaKdClut3
set_option linter.unusedVariables false
set_option linter.unusedSimpArgs false
namespace Go.KD
open Go.RowKit
def thoseN (p : Nat → Bool) (k : Nat) : List Nat := (List.range k).filter p
theorem thoseN_yes {p : Nat → Bool} {k : Nat} (h : p k = true) : thoseN p (k + 1) = thoseN p k ++ [k] := by simp [thoseN, List.range_succ, List.filter_append, h]
theorem thoseN_no {p : Nat → Bool} {k : Nat} (h : p k = false) : thoseN p (k + 1) = thoseN p k := by simp [thoseN, List.range_succ, List.filter_append, h]
theorem thoseN_len (p : Nat → Bool) (k : Nat) : (thoseN p k).length ≤ k := Nat.le_trans (List.length_filter_le _ _) (by simp)
theorem thoseN_lt {p : Nat → Bool} {k : Nat} {s : Nat} (h : s ∈ thoseN p k) : s < k := List.mem_range.1 (List.mem_filter.1 h).1
def noMeet (s : Nat) (x : Int) : Bool := x.toNat &&& s == 0
theorem meet_any (L : List Nat) (s : Nat) : (!(anyP (noMeet s) (natsI L))) = meetN L s := by
  unfold anyP natsI noMeet meetN
  rw [List.any_map, ← List.not_any_eq_all_not]
  congr 1
def notSet (x : Int) : Bool := !setB x
theorem sets_any (l : List Int) : (!(anyP notSet l)) = setsB l := by
  unfold anyP notSet setsB
  rw [List.not_any_eq_all_not]
  simp
/-- Are the first k the same? -/
def eqK (a b : List Int) (k : Nat) : Bool := (List.range k).all fun j => a[j]! == b[j]!
end Go.KD
namespace Go.Proofs.Ytmilpahggceemaa
open Go.RowKit Go.KD
attribute [local go_sem] later_cell later_frozen
set_option maxRecDepth 100000 in
set_option maxHeartbeats 4000000 in
theorem thoseG_c (F : FuncId) (fn : Func) (hf1 : Try.prog.funcs[F]? = some fn) (hf2 : (fn.name == "runtime.NumGoroutine") = false) (hf3 : fn.body.isNone = false) (caps : Array Value) (p : Nat → Bool) (w : World)
    (hp : ∀ s, s < 64 → ∀ w', Below w.heap.size w w' → Calls Try.prog F (#[.int .i64 s] ++ caps) w' fun e w'' => e = .returned (.bool (p s)) ∧ Below w'.heap.size w' w'') :
    Calls Try.prog 180 #[.func (.func F) #[] caps] w fun e w' => ∃ u, e = .returned u ∧ w'.ownsRow w.heap.size 3 1 u (thoseN p 64).length (ints (natsI (thoseN p 64))) ∧ Below w.heap.size w w' := by
  obtain ⟨i0, ji, jz0, jz1, jz2⟩ := info_parts infoI
  have HP := Lib.hid hp
  have hcf := run_callFunc hf1 hf2 hf3
  clear hp hf1 hf2 hf3
  go_enter Try.func180, Try.ntmps180
  go_wp2
  go_loopw [3, 6] (fun u t wr => ∃ k : Nat, t = .int .i64 k ∧ k ≤ 64 ∧ Hid (wr.ownsRow w.heap.size 3 1 u (thoseN p k).length (ints (natsI (thoseN p k)))) ∧ Below w.heap.size w wr) (fun _ t _ => 64 - (intOf t).toNat)
  case atStart => exact ⟨0, rfl, by omega, (by have := World.ownsRow_lit (base := w.heap.size) (e := 3) (size := 1) w #[] 0 (Nat.le_refl _) (by unfold maxLen; omega) rfl; exact this), (Below.refl _ _).alloc (Nat.le_refl _) _⟩
  case round =>
    obtain ⟨wi, rfl⟩ : ∃ wi : World, wi = wr := ⟨_, rfl⟩
    obtain ⟨k, rfl, hk, HO, hb⟩ := hrel
    have HB := Lib.hid hb
    have hz := hb.size
    obtain ⟨aM, cM, rfl⟩ := own_slice HO.out
    by_cases hlt : k < 64
    · have hkI : (k : Int) < 64 := by omega
      have hlen := thoseN_len p k
      have hcall := HP.out k hlt wi hb
      clear hb
      cases hq : p k with
      | false =>
        rw [hq] at hcall
        have HN := Lib.hid (thoseN_no hq)
        clear hq
        go_wp2_with fail
        refine hcall.mono ?_
        rintro e w2 ⟨rfl, hb2⟩
        have HR2 := Lib.hid (own_below HO.out hb2)
        have HB2 := Lib.hid (below_then HB.out hb2)
        clear hb2 hcall
        go_wp2_with fail
        go_roundw
        case rel => exact ⟨k + 1, by go_num, by omega, by rw [HN.out]; exact HR2, HB2.out⟩
        case measure => simp [intOf]; omega
      | true =>
        rw [hq] at hcall
        have HN := Lib.hid (thoseN_yes hq)
        clear hq
        go_wp2_with fail
        refine hcall.mono ?_
        rintro e w2 ⟨rfl, hb2⟩
        have HR2 := Lib.hid (own_below HO.out hb2)
        have HB2 := Lib.hid (below_then HB.out hb2)
        have hz2 := HB2.out.size
        clear hb2 hcall
        go_wp2_with (at_builtin; refine wpList_append_own _ rfl _ _ 24 rfl w.heap.size 3 i0 (.int .i64 0) 1 8 Try.underlying24 ji jz0 jz1 jz2 rfl (by decide) _ _ _ rfl (HR2.out.alloc _) ⟨w2.heap.size, 0, none⟩ 1 1 [.int .i64 k] rfl rfl ?_ ?_ ?_ ?_ ?_ ?_; (exact cell_one_new _ _ _); (simp [Value.oneCell']); (unfold maxLen; omega); omega; (simp; omega); intro v' w3 hown' hgrow _)
        go_roundw
        case rel => exact ⟨k + 1, by go_num, by omega, by rw [HN.out, natsI_snoc, ints_snoc, List.length_append]; exact hown', (HB2.out.alloc hz2 _).grown hgrow (by simp; omega) (fun g hg => own_block_lo HR2.out hg)⟩
        case measure => simp [intOf]; omega
    · obtain rfl : k = 64 := by omega
      clear hb
      go_wp2
      go_ret
      exact ⟨_, rfl, HO.out, HB.out⟩
theorem areSetsK_c (x : Int) (w : World) : Calls Try.prog 256 #[.int .i64 x] w fun e w' => e = .returned (.bool (notSet x)) ∧ Below w.heap.size w w' := by
  go_enter Try.func256, Try.ntmps256
  go_wp2_with (go_at_call 137; refine (isSet_c _ _).mono ?_; rintro e w1 ⟨rfl, rfl⟩)
  go_ret
  exact ⟨ret_bool rfl, Below.refl _ _⟩
theorem areSets_c (a : Option Addr) (c n : Nat) (l : List Int) (w : World) (hn : n = l.length) (hA : IC w a l) (hl : n ≤ 1048576) : Calls Try.prog 129 #[.slice a n c] w fun e w' => e = .returned (.bool (setsB l)) ∧ Below w.heap.size w w' := by
  have HE := Lib.hid (sets_any l)
  have HN := Lib.hid hn; clear hn
  go_enter Try.func129, Try.ntmps129
  go_wp2_with (go_at_call 255; refine (containsFunc_c 256 Try.f256 Try.func256 (by kernel_rfl) rfl #[] notSet _ _ _ l _ HN.out hA hl (fun j x _ _ w' _ => areSetsK_c x w')).mono ?_; rintro e w1 ⟨rfl, hb1⟩)
  go_ret
  exact ⟨by rw [← HE.out]; rfl, hb1⟩
theorem meetsK_c (x s g : Nat) (hx : x < 64) (hs : s < 64) (w : World) (hc : w.cell? ⟨g, 0, none⟩ = some (.int .i64 s)) : Calls Try.prog 264 #[.int .i64 x, .pointer (some ⟨g, 0, none⟩)] w fun e w' => e = .returned (.bool (noMeet s x)) ∧ Below w.heap.size w w' := by
  have ea : bits .and .i64 (x : Int) (s : Int) = ((x &&& s : Nat) : Int) := i64_and x s (by omega) (by omega)
  have HP : Hid (noMeet s x = decide (x &&& s = 0)) := by show _ = _; unfold noMeet; rw [Int.toNat_natCast]; rfl
  obtain ⟨z, hz⟩ : ∃ z, z = x &&& s := ⟨_, rfl⟩
  rw [← hz] at ea HP
  clear hz
  go_enter Try.func264, Try.ntmps264
  go_wp2
  go_ret
  exact ⟨ret_bool (by rw [HP.out]; exact decide_eq_decide.2 (by omega)), Below.refl _ _⟩
theorem meets_c (a : Option Addr) (c n : Nat) (L : List Nat) (s : Nat) (w : World) (hn : n = L.length) (hA : IC w a (natsI L)) (hL : ∀ t ∈ L, t < 64) (hs : s < 64) (hl : n ≤ 1048576) : Calls Try.prog 138 #[.slice a n c, .int .i64 s] w fun e w' => e = .returned (.bool (meetN L s)) ∧ Below w.heap.size w w' := by
  have HE := Lib.hid (meet_any L s)
  have HN := Lib.hid hn; clear hn
  have HL := Lib.hid hL; clear hL
  go_enter Try.func138, Try.ntmps138
  go_wp2_with (go_at_call 255; refine (containsFunc_c 264 Try.f264 Try.func264 (by kernel_rfl) rfl #[.pointer (some ⟨w.heap.size, 0, none⟩)] (noMeet s) _ _ _ (natsI L) _ (by rw [natsI_len]; exact HN.out) (hA.later (by (repeat (first | exact Below.refl _ _ | apply Below.drew | apply below_drewN | (refine Below.setCell ?_ (by first | omega | (simp; done) | (simp; omega) | (dsimp only; omega)) _) | (refine Below.alloc ?_ (by first | omega | (simp; done) | (simp; omega) | (dsimp only; omega)) _))))) hl (fun j x hj hx w' hb' => by
    have hj' : j < L.length := by simpa using hj
    rw [natsI_at hj'] at hx
    subst hx
    exact meetsK_c _ s _ (HL.out _ (by rw [getElem!_pos L j hj']; exact List.getElem_mem hj')) hs w' ((hb'.cell (p := ⟨w.heap.size, 0, none⟩) (by simp)).trans (by simp [go_sem])))).mono ?_; rintro e w1 ⟨rfl, hb1⟩)
  go_ret
  exact ⟨by rw [← HE.out]; rfl, below_then (by (repeat (first | exact Below.refl _ _ | apply Below.drew | apply below_drewN | (refine Below.setCell ?_ (by first | omega | (simp; done) | (simp; omega) | (dsimp only; omega)) _) | (refine Below.alloc ?_ (by first | omega | (simp; done) | (simp; omega) | (dsimp only; omega)) _)))) hb1⟩
set_option maxHeartbeats 1000000 in
theorem equalI_c (a1 : Option Addr) (c1 n1 : Nat) (l1 : List Int) (a2 : Option Addr) (c2 n2 : Nat) (l2 : List Int) (w : World) (e1 : n1 = l1.length) (e2 : n2 = l2.length) (h1 : IC w a1 l1) (h2 : IC w a2 l2) (hl : n1 ≤ 1048576) (hl2 : n2 ≤ 1048576) : Calls Try.prog 130 #[.slice a1 n1 c1, .slice a2 n2 c2] w fun e w' => e = .returned (.bool (decide (l1 = l2))) ∧ Below w.heap.size w w' := by
  subst e1 e2
  by_cases hne : l1.length = l2.length
  · have hb : ((l1.length : Int) != (l2.length : Int)) = false := by rw [hne]; simp
    have HNE := Lib.hid hne
    clear hne
    go_enter Try.func130, Try.ntmps130
    go_wp2
    go_loopw [13] (fun i wr => ∃ k : Nat, i = .int .i64 k ∧ k ≤ l1.length ∧ Hid (∀ j, j < k → l1[j]! = l2[j]!) ∧ ∃ nq, wr = w.drewN nq) (fun i _ => l1.length - (intOf i).toNat)
    case atStart => exact ⟨0, rfl, Nat.zero_le _, (fun j hj => by omega), 0, rfl⟩
    case round =>
      obtain ⟨k, rfl, hk, HK, nq, rfl⟩ := hrel
      by_cases hlt : k < l1.length
      · have hkI : (k : Int) < (l1.length : Int) := by omega
        have hk2 : k < l2.length := by have := HNE.out; omega
        have hkI2 : (k : Int) < (l2.length : Int) := by omega
        obtain ⟨b1, o1, x, rfl, HX, hbs1, f1⟩ := h1.at k hlt
        obtain ⟨b2, o2, y, rfl, HY, hbs2, f2⟩ := h2.at k hk2
        by_cases hxy : x = y
        · have hb2 : (x != y) = false := by simp [hxy]
          have HXY := Lib.hid hxy
          clear hxy
          go_wp2
          go_quiet (fail)
          go_wp2
          go_roundw
          case rel => exact ⟨k + 1, by go_num, by omega, (fun j hj => by
            rcases Nat.lt_or_ge j k with h | h
            · exact HK.out j h
            · obtain rfl : j = k := by omega
              rw [HX.out, HY.out]; exact HXY.out), _, rfl⟩
          case measure => simp [intOf]; omega
        · have hb2 : (x != y) = true := by simpa using hxy
          have HR : Hid (decide (l1 = l2) = false) := by
            show _ = _
            rw [decide_eq_false_iff_not]
            intro e
            have h3 := HX.out
            rw [e, HY.out] at h3
            exact hxy h3.symm
          clear hxy
          go_wp2
          go_quiet (fail)
          go_wp2
          go_ret
          exact ⟨by rw [HR.out]; rfl, below_drewN (below_drewN (Below.refl _ _) _) _⟩
      · obtain rfl : k = l1.length := by omega
        have HR : Hid (decide (l1 = l2) = true) := by
          show _ = _
          rw [decide_eq_true_eq]
          refine List.ext_getElem HNE.out fun i hi1 hi2 => ?_
          have := HK.out i hi1
          rwa [getElem!_pos l1 i hi1, getElem!_pos l2 i hi2] at this
        go_wp2
        go_ret
        exact ⟨by rw [HR.out]; rfl, below_drewN (Below.refl _ _) _⟩
  · have hb : ((l1.length : Int) != (l2.length : Int)) = true := by simp; omega
    have HR : Hid (decide (l1 = l2) = false) := by
      show _ = _
      rw [decide_eq_false_iff_not]
      intro e; exact hne (by rw [e])
    clear hne
    go_enter Try.func130, Try.ntmps130
    go_wp2
    go_ret
    exact ⟨by rw [HR.out]; rfl, Below.refl _ _⟩
theorem clutterK_c (o s g : Nat) (ho : o < 64) (w : World) (hc : w.cell? ⟨g, 0, none⟩ = some (.int .i64 s)) : Calls Try.prog 259 #[.int .i64 o, .pointer (some ⟨g, 0, none⟩)] w fun e w' => e = .returned (.bool (parP s o)) ∧ Below w.heap.size w w' := by
  have HP : Hid (parP s o = subB o s) := by show _ = _; unfold parP; rw [Int.toNat_natCast]
  go_enter Try.func259, Try.ntmps259
  go_wp2_with (go_at_call 260; refine (has_c s o (by omega) _).mono ?_; rintro e w1 ⟨rfl, rfl⟩)
  go_ret
  exact ⟨by rw [HP.out]; rfl, Below.refl _ _⟩
set_option maxRecDepth 100000 in
set_option maxHeartbeats 8000000 in
theorem clutter_c (a : Option Addr) (c n : Nat) (L : List Nat) (w : World) (hn : n = L.length) (hA : IC w a (natsI L)) (hL : ∀ t ∈ L, t < 64) (hl : n ≤ 1048576) : Calls Try.prog 131 #[.slice a n c] w fun e w' =>
    ∃ u S, e = .returned u ∧ List.Perm S L ∧ S.Pairwise (fun a b => keyS a ≤ keyS b) ∧ w'.ownsRow w.heap.size 3 1 u (clutF S).length (ints (natsI (clutF S))) ∧ Below w.heap.size w w' := by
  obtain ⟨i0, ji, jz0, jz1, jz2⟩ := info_parts infoI
  have HN := Lib.hid hn; clear hn
  have HL := Lib.hid hL; clear hL
  go_enter Try.func131, Try.ntmps131
  go_wp2_with fail
  refine (clone_c _ _ _ (natsI L) _ (by rw [natsI_len]; exact HN.out) hA hl).mono ?_
  rintro e w1 ⟨u1, rfl, ho1, hb1⟩
  obtain ⟨aS, cS, rfl⟩ := own_slice ho1
  have HO1 := Lib.hid (Own.of ho1)
  have HB1 := Lib.hid hb1
  have hz1 := hb1.size
  clear ho1 hb1
  go_wp2_with fail
  refine (sortS_c w.heap.size w1.heap.size 3 _ _ _ L _ HN.out HO1.out HL.out hl).mono ?_
  rintro e w2 ⟨rfl, S, hperm, hsort, ho2, hc2⟩
  have HPM := Lib.hid hperm
  have HSR := Lib.hid hsort
  have hSn : n = S.length := by have := hperm.length_eq; have := HN.out; omega
  subst hSn
  have HS64 : Hid (∀ t ∈ S, t < 64) := fun t ht => HL.out t (HPM.out.mem_iff.1 ht)
  have HO2 := Lib.hid ho2
  have hz2 := hc2.size
  have HB2 : Hid (Below w.heap.size w w2) := HB1.out.trans (hc2.below (Nat.le_refl _) hz1)
  have HI2 : Hid (IC w2 aS (natsI S)) := ic_of' ho2 (by rw [natsI_len])
  have HAS : Hid (∀ b, (Value.slice aS S.length cS).ownBlock = some b → b < w2.heap.size) := fun b hb => by have := ho2.top b hb; omega
  have hz3' : w.heap.size ≤ w2.heap.size := HB2.out.size
  clear hperm hsort ho2 hc2 HO1 HB1 HO2
  go_wp2
  go_loopw [4, 14] (fun u t wr => ∃ k : Nat, t = .int .i64 k ∧ k ≤ S.length ∧ Hid (wr.ownsRow w2.heap.size 3 1 u (kpK S k).length (ints (natsI (kpK S k)))) ∧ Below w2.heap.size w2 wr) (fun _ t _ => S.length - (intOf t).toNat)
  case atStart => exact ⟨0, rfl, Nat.zero_le _, (by have := World.ownsRow_lit (base := w2.heap.size) (e := 3) (size := 1) w2 #[] 0 (Nat.le_refl _) (by unfold maxLen; omega) rfl; exact this), (Below.refl _ _).alloc (Nat.le_refl _) _⟩
  case round =>
    obtain ⟨wi, rfl⟩ : ∃ wi : World, wi = wr := ⟨_, rfl⟩
    obtain ⟨k, rfl, hk, HO, hb⟩ := hrel
    have HB := Lib.hid hb
    have hzi := hb.size
    clear hb
    have hkl := kpK_len S k hk
    obtain ⟨aM, cM, rfl⟩ := own_slice HO.out
    have HIM : Hid (IC wi aM (natsI (kpK S k))) := ic_of' (Own.of HO.out) (by rw [natsI_len])
    by_cases hlt : k < S.length
    · have hkI : (k : Int) < (S.length : Int) := by omega
      obtain ⟨b, off, x, hab, HX, hbs, e0⟩ := (HI2.out.later HB.out).at k (by rw [natsI_len]; exact hlt)
      rw [natsI_at hlt] at HX
      obtain ⟨s, hs⟩ : ∃ s, s = S[k]! := ⟨_, rfl⟩
      rw [← hs] at HX
      have hx := HX.out
      subst hx
      subst hab
      have HS := Lib.hid hs
      have HST : Hid (kpK S (k + 1) = keepC (kpK S k) s) := by rw [hs]; exact kpK_step hlt
      have HPA := Lib.hid (par_any (kpK S k) s)
      have HSUB : Hid (∀ o ∈ kpK S k, o < 64) := fun o ho => HS64.out o (kpK_sub k hk o ho)
      clear hs HX
      obtain ⟨ab, hab⟩ : ∃ ab, ab = (kpK S k).any (fun o => subB o s) := ⟨_, rfl⟩
      rw [← hab] at HPA
      have HAB := Lib.hid hab
      clear hab
      have hcont : ∀ j x, j < (natsI (kpK S k)).length → (natsI (kpK S k))[j]! = x → ∀ w', Below (wi.alloc (.cells #[.int .i64 s] 3)).heap.size (wi.alloc (.cells #[.int .i64 s] 3)) w' → Calls Try.prog 259 (#[.int .i64 x] ++ #[.pointer (some ⟨wi.heap.size, 0, none⟩)]) w' fun e w'' => e = .returned (.bool (parP s x)) ∧ Below w'.heap.size w' w'' := by
        intro j x hj hx w' hb'
        have hj' : j < (kpK S k).length := by simpa using hj
        rw [natsI_at hj'] at hx
        subst hx
        exact clutterK_c _ s _ (HSUB.out _ (by rw [getElem!_pos _ j hj']; exact List.getElem_mem hj')) w' ((hb'.cell (p := ⟨wi.heap.size, 0, none⟩) (by simp)).trans (by simp [go_sem]))
      have HCN := Lib.hid hcont
      clear hcont
      go_wp2_with fail
      refine (containsFunc_c 259 Try.f259 Try.func259 (by kernel_rfl) rfl #[.pointer (some ⟨wi.heap.size, 0, none⟩)] (parP s) _ _ _ (natsI (kpK S k)) _ (by rw [natsI_len]) (HIM.out.later ((Below.refl _ _).alloc (Nat.le_refl _) _)) (by omega) HCN.out).mono ?_
      rintro e w3 ⟨rfl, hb3⟩
      have HB3 : Hid (Below wi.heap.size wi w3) := below_box (hb3.mono (by simp)) (Nat.le_refl _)
      have HO3 := Lib.hid (own_below HO.out HB3.out)
      have e3 : w3.cell? ⟨wi.heap.size, 0, none⟩ = some (.int .i64 s) := (hb3.cell (p := ⟨wi.heap.size, 0, none⟩) (by simp)).trans (by simp [go_sem])
      have hz3 : w2.heap.size ≤ w3.heap.size := by have := HB3.out.size; omega
      rw [HPA.out]
      clear hb3 HCN
      cases ab
      case true =>
        have HN : Hid (kpK S (k + 1) = kpK S k) := by
          show _ = _
          rw [HST.out]; unfold keepC; rw [← HAB.out]; rfl
        go_wp2_with fail
        go_roundw
        case rel => exact ⟨k + 1, by go_num, by omega, by rw [HN.out]; exact HO3, HB.out.trans (HB3.out.mono (by omega))⟩
        case measure => simp [intOf]; omega
      case false =>
        have HN : Hid (kpK S (k + 1) = kpK S k ++ [s]) := by
          show _ = _
          rw [HST.out]; unfold keepC; rw [← HAB.out]; rfl
        go_wp2_with (at_builtin; refine wpList_append_own _ rfl _ _ 24 rfl w2.heap.size 3 i0 (.int .i64 0) 1 8 Try.underlying24 ji jz0 jz1 jz2 rfl (by decide) _ _ _ rfl (HO3.out.alloc _) ⟨w3.heap.size, 0, none⟩ 1 1 [.int .i64 s] rfl rfl ?_ ?_ ?_ ?_ ?_ ?_; (exact cell_one_new _ _ _); (simp [Value.oneCell']); (unfold maxLen; omega); omega; (simp; omega); intro v' w4 hown' hgrow _)
        go_roundw
        case rel => exact ⟨k + 1, by go_num, by omega, by rw [HN.out, natsI_snoc, ints_snoc, List.length_append]; exact hown', ((HB.out.trans (HB3.out.mono (by omega))).alloc hz3 _).grown hgrow (by simp; omega) (fun g hg => own_block_lo HO3.out hg)⟩
        case measure => simp [intOf]; omega
    · obtain rfl : k = S.length := by omega
      go_wp2
      go_ret
      refine ⟨_, S, rfl, HPM.out, HSR.out, ?_, HB2.out.trans (HB.out.mono hz3')⟩
      have := HO.out
      rw [kpK_all] at this
      rw [kpK_all]
      exact (Own.mono (Own.of this) hz3' (Nat.le_refl _)).row
end Go.Proofs.Ytmilpahggceemaa
