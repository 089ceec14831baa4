/- Clutters: the program's walks. -/
import Derived.Test.YtmilpahggceemaaKdClut2
import Derived.Test.YtmilpahggceemaaKdSortI
import Derived.Test.YtmilpahggceemaaKdList
import Derived.Test.YtmilpahggceemaaKdBits
set_option linter.unusedVariables false
set_option linter.unusedSimpArgs false
namespace Go.KD
open Go.RowKit Go.Proofs Go.Sort
def encS (x : Fin 64) : Value := .int .i64 (x.val : Nat)
def cmpS (x y : Fin 64) : Int := orI [cmpI (popc x.val) (popc y.val), cmpI (x.val : Nat) (y.val : Nat)]
theorem ltS_key : ∀ x y : Fin 64, ltOf cmpS x y = decide (keyS x.val < keyS y.val) := by decide +kernel
theorem swoS : SWO (ltOf cmpS) where
  irrefl x := by rw [ltS_key]; simp
  trans x y z h1 h2 := by rw [ltS_key, decide_eq_true_eq] at *; omega
  ntrans x y z h1 h2 := by rw [ltS_key, decide_eq_false_iff_not] at *; omega
theorem totS (x y : Fin 64) (h1 : ltOf cmpS x y = false) (h2 : ltOf cmpS y x = false) : x = y := by
  rw [ltS_key, decide_eq_false_iff_not] at *
  exact Fin.ext (keyS_inj _ x.2 _ y.2 (by omega))
/-- The list as sets. -/
def finL (L : List Nat) : List (Fin 64) := L.map fun n => ⟨n % 64, Nat.mod_lt _ (by omega)⟩
theorem finL_back {L : List Nat} (h : ∀ t ∈ L, t < 64) : (finL L).map (fun x : Fin 64 => x.val) = L := by
  unfold finL
  rw [List.map_map]
  conv => rhs; rw [← List.map_id L]
  exact List.map_congr_left fun x hx => Nat.mod_eq_of_lt (h x hx)
theorem ints_fin (l : List (Fin 64)) : l.map encS = ints (natsI (l.map fun x : Fin 64 => x.val)) := by
  simp [ints, natsI, encS, List.map_map, Function.comp_def]
theorem own_sortWorld {w : World} {lo g n cap m : Nat} {e : TypeId} {xs : List Value} {os : Array Obj} (h : w.ownsRow lo e 1 (.slice (some ⟨g, 0, none⟩) n cap) n xs) (d : Array (Fin 64)) (hd : d.size = n) :
    (sortWorld encS w g 0 m d os).ownsRow lo e 1 (.slice (some ⟨g, 0, none⟩) n cap) n (d.toList.map encS) := by
  obtain ⟨hl, h1⟩ := h
  rcases h1 with ⟨hv, _⟩ | ⟨g', cap', cur, hv, hg, hh, hn, hm, hc, hx⟩
  · cases hv
  cases hv
  have hgs : g < w.heap.size := by
    rcases Nat.lt_or_ge g w.heap.size with h | h
    · exact h
    · rw [Array.getElem?_eq_none h] at hh; cases hh
  refine ⟨by simp; omega, .inr ⟨g, cap, putCells encS 0 d cur, rfl, hg, ?_, hn, hm, ?_, ?_⟩⟩
  · unfold sortWorld grow putRow mapBlock
    show (Array.modify w.heap g (onCells (putCells encS 0 d)) ++ os)[g]? = _
    rw [Array.getElem?_append_left (by simpa using hgs), Array.getElem?_modify, if_pos rfl, hh]
    rfl
  · unfold putCells; rw [Array.size_mapIdx]; exact hc
  · have hc' : cur.size = cap * 1 := hc
    apply List.ext_getElem
    · simp [putCells]; omega
    · intro i h1 h2
      have hi : i < d.size := by simpa using h2
      simp [putCells, hi]
theorem chg_sortWorld {w : World} {lo hi g m : Nat} {os : Array Obj} (hg : lo ≤ g ∧ g < hi) (d : Array (Fin 64)) : Chg lo hi w (sortWorld encS w g 0 m d os) := by
  refine ⟨rfl, rfl, rfl, ?_, fun k hk hd => ?_⟩
  · unfold sortWorld grow putRow mapBlock
    show _ ≤ (Array.modify w.heap g (onCells (putCells encS 0 d)) ++ os).size
    rw [Array.size_append, Array.size_modify]; omega
  · unfold sortWorld grow putRow mapBlock
    show (Array.modify w.heap g (onCells (putCells encS 0 d)) ++ os)[k]? = _
    rw [Array.getElem?_append_left (by rw [Array.size_modify]; exact hk), Array.getElem?_modify, if_neg (by omega)]
def kpK (S : List Nat) (k : Nat) : List Nat := (S.take k).foldl keepC []
theorem kpK_all (S : List Nat) : kpK S S.length = clutF S := by unfold kpK clutF; rw [List.take_length]
theorem kpK_step {S : List Nat} {k : Nat} (hk : k < S.length) : kpK S (k + 1) = keepC (kpK S k) S[k]! := by
  unfold kpK; rw [take_snoc hk, List.foldl_append]; rfl
theorem keepC_len (out : List Nat) (s : Nat) : (keepC out s).length ≤ out.length + 1 := by unfold keepC; split <;> simp
theorem kpK_len (S : List Nat) : ∀ k, k ≤ S.length → (kpK S k).length ≤ k
  | 0, _ => by simp [kpK]
  | k + 1, hk => by
    rw [kpK_step (by omega)]
    have := keepC_len (kpK S k) S[k]!
    have := kpK_len S k (by omega)
    omega
theorem kpK_sub {S : List Nat} : ∀ k, k ≤ S.length → ∀ o ∈ kpK S k, o ∈ S
  | 0, _, o, ho => by simp [kpK] at ho
  | k + 1, hk, o, ho => by
    rw [kpK_step (by omega)] at ho
    unfold keepC at ho
    split at ho
    · exact kpK_sub k (by omega) o ho
    · rw [List.mem_append] at ho
      rcases ho with ho | ho
      · exact kpK_sub k (by omega) o ho
      · have : o = S[k]! := by simpa using ho
        rw [this, getElem!_pos S k (by omega)]; exact List.getElem_mem _
/-- Is a set of a list a part of s? -/
def parP (s : Nat) (o : Int) : Bool := subB o.toNat s
theorem par_any (out : List Nat) (s : Nat) : anyP (parP s) (natsI out) = out.any (fun o => subB o s) := by
  unfold anyP natsI parP
  rw [List.any_map]
  rfl
end Go.KD
namespace Go.Proofs.Ytmilpahggceemaa
open Go.RowKit Go.KD Go.Sort Go.Shelf
attribute [local go_sem] later_cell later_frozen
set_option maxRecDepth 100000 in
theorem compareSets_c (x y : Fin 64) (w : World) : Calls Try.prog 258 #[encS x, encS y] w fun e w' => e = .returned (.int .i64 (cmpS x y)) ∧ ∃ q os', w' = grow (w.drewN q) os' := by
  obtain ⟨a, ha⟩ := x
  obtain ⟨b, hb⟩ := y
  show Calls Try.prog 258 #[.int .i64 a, .int .i64 b] w _
  have ha0 : (0 : Int) ≤ (a : Int) := by omega
  have hb0 : (0 : Int) ≤ (b : Int) := by omega
  have ha1 : (a : Int) < 64 := by omega
  have hb1 : (b : Int) < 64 := by omega
  go_enter Try.func258, Try.ntmps258
  go_wp2_with (first
    | (go_at_call 270; refine (onesCount_c _ (by first | exact ha | exact hb) _).mono ?_; rintro e w1 ⟨rfl, rfl⟩)
    | (go_at_call 274; refine (compare_c _ _ _).mono ?_; rintro e w1 ⟨rfl, hw1⟩; subst hw1)
    | (go_at_call 273; refine (or_c _ _ _ [cmpI (popc a) (popc b), cmpI a b] _ rfl (ic_lit _ _ _ _ _ (by simp) rfl) (by simp)).mono ?_; rintro e w1 ⟨rfl, rfl⟩))
  go_ret
  exact ⟨rfl, 0, _, alloc_eq_grow _ _⟩
theorem sortS_c (lo hi : Nat) (e : TypeId) (a : Option Addr) (cap n : Nat) (L : List Nat) (w : World) (hn : n = L.length) (ho : Own lo hi w e 1 (.slice a n cap) n (ints (natsI L))) (hL : ∀ t ∈ L, t < 64) (hl : n ≤ 1048576) :
    Calls Try.prog 257 #[.slice a n cap, .func (.func 258) #[] #[]] w fun ee w' => ee = .returned (.tuple #[]) ∧ ∃ S : List Nat, S.Perm L ∧ S.Pairwise (fun a b => keyS a ≤ keyS b) ∧ Own lo hi w' e 1 (.slice a n cap) n (ints (natsI S)) ∧ Chg lo hi w w' := by
  by_cases h0 : n = 0
  · subst h0
    have hl0 : L = [] := by cases L with | nil => rfl | cons => simp at hn
    subst hl0
    have h := AnyF.slices_SortFunc_none (P := Try.prog) (ρ := sortI_ren) { sortI with } a cap (.func (.func 258) #[] #[]) w
    refine h.mono ?_
    rintro ee w' ⟨h1, rfl⟩
    exact ⟨h1, [], List.Perm.refl _, List.Pairwise.nil, ho, Chg.of_below (Below.refl _ _)⟩
  · obtain ⟨g, c', hs, hcapn, hcapm⟩ := own_someD ho.row (by omega : 0 < n)
    obtain ⟨rfl, rfl⟩ : a = some ⟨g, 0, none⟩ ∧ cap = c' := by cases hs; exact ⟨rfl, rfl⟩
    have hgl := own_block_lo ho.row (g := g) rfl
    have hgh := ho.top g rfl
    have hd : (finL L).toArray.size = n := by simp [finL, hn]
    have hgz : g < w.heap.size := by
      obtain ⟨u, hu⟩ := (own_cell ho.row 0 (by omega)).1
      rcases Nat.lt_or_ge g w.heap.size with h | h
      · exact h
      · rw [World.cell?, Array.getElem?_eq_none h] at hu; cases hu
    have hH : Holds encS w g 0 (finL L).toArray := by
      intro j hj
      have hj' : j < n := by rw [hd] at hj; exact hj
      refine ⟨?_, by rw [Nat.zero_add]; exact (own_cell ho.row j (by omega)).2⟩
      rw [Nat.zero_add, own_intK ho.row j hj' (by rw [natsI_len, hn]), natsI_at (by omega), getElem!_pos (finL L).toArray j hj]
      have hjl : j < L.length := by omega
      have : L[j] < 64 := hL _ (List.getElem_mem hjl)
      rw [getElem!_pos L j hjl]
      simp only [encS, finL, List.getElem_toArray, List.getElem_map]
      rw [Nat.mod_eq_of_lt this]
    have eg : ∀ args w, (callFunc 258 args).run Try.prog w = .ok (.enter 258 args) w := enters_of Try.func258 (by kernel_rfl) rfl
    have h := Any.slices_SortFunc_total sortI encS (fun _ => rfl) cmpS swoS 258 #[] g 0 cap (finL L).toArray w eg (fun m os dk hs x y => by
      have := compareSets_c x y (sortWorld encS w g 0 m dk os)
      simpa using this) hH hgz (by rw [hd]; omega) totS
    rw [hd] at h
    refine h.mono ?_
    rintro ee w' ⟨h1, q, os, rfl⟩
    have hpm : (((finL L).toArray.toList).mergeSort fun x y => !(ltOf cmpS) y x).Perm (finL L) := List.mergeSort_perm _ _
    have hsrt := List.pairwise_mergeSort (le := fun x y => !(ltOf cmpS) y x) (fun x y z => by simp only [ltS_key, Bool.not_eq_true', decide_eq_false_iff_not]; omega) (fun x y => by simp only [ltS_key, Bool.or_eq_true, Bool.not_eq_true', decide_eq_false_iff_not]; omega) ((finL L).toArray.toList)
    refine ⟨h1, (((finL L).toArray.toList).mergeSort fun x y => !(ltOf cmpS) y x).map (fun x : Fin 64 => x.val), ?_, ?_, ?_, chg_sortWorld ⟨hgl, hgh⟩ _⟩
    · have := hpm.map (fun x : Fin 64 => x.val)
      rwa [finL_back hL] at this
    · rw [List.pairwise_map]
      refine hsrt.imp fun {x y} h => ?_
      simp only [ltS_key, Bool.not_eq_true', decide_eq_false_iff_not] at h
      omega
    · rw [← ints_fin]
      exact ⟨own_sortWorld ho.row _ (by rw [List.size_toArray, hpm.length_eq]; simp [finL, hn]), fun b hb => by cases hb; exact hgh⟩
end Go.Proofs.Ytmilpahggceemaa
