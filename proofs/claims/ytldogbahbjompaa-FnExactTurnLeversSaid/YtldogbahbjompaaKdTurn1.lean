/- Gates put in order by the program: slices.Clone and slices.SortFunc at [][4]int. Printed by mk_turn1.py. -/
import Derived.Test.YtldogbahbjompaaKdTurn0
import Derived.Test.YtldogbahbjompaaKdSortQ
import Derived.Test.YtldogbahbjompaaKdWorks2
import Derived.Test.YtldogbahbjompaaKdOwn
import Derived.StillTailTactics
set_option linter.unusedVariables false
set_option linter.unusedSimpArgs false
namespace Go.KD
open Go.RowKit Go.Proofs Go.Sort
def encQ (x : D4) : List Value := [.int .i64 x.1, .int .i64 x.2.1, .int .i64 x.2.2.1, .int .i64 x.2.2.2]
theorem get_c4Q (l : List D4) (j : Nat) (hj : j < l.length * 4) : (c4 l)[j]? = some (encQ l[j / 4]!)[j % 4]! := by
  obtain ⟨h0, h1, h2, h3⟩ := get_c4 l (j / 4) (by omega)
  have h4 : j % 4 = 0 ∨ j % 4 = 1 ∨ j % 4 = 2 ∨ j % 4 = 3 := by omega
  rcases h4 with e | e | e | e
  · have : (c4 l)[j]? = (c4 l)[j / 4 * 4]? := by congr 1; omega
    rw [this, h0, e]; rfl
  · have : (c4 l)[j]? = (c4 l)[j / 4 * 4 + 1]? := by congr 1; omega
    rw [this, h1, e]; rfl
  · have : (c4 l)[j]? = (c4 l)[j / 4 * 4 + 2]? := by congr 1; omega
    rw [this, h2, e]; rfl
  · have : (c4 l)[j]? = (c4 l)[j / 4 * 4 + 3]? := by congr 1; omega
    rw [this, h3, e]; rfl
theorem flat_c4 (d : Array D4) : (flatK encQ 4 d).toList = c4 d.toList := by
  apply List.ext_getElem?
  intro j
  by_cases hj : j < d.size * 4
  · rw [get_c4Q _ j (by simpa using hj)]
    have h1 := get_flatK encQ 4 d j hj
    have hs : j < (flatK encQ 4 d).size := by rw [size_flatK]; exact hj
    rw [getElem!_pos _ j hs] at h1
    rw [List.getElem?_eq_getElem (by simpa using hs), Array.getElem_toList, h1]
    congr 2
    rw [getElem!_pos d (j / 4) (by omega), getElem!_pos d.toList (j / 4) (by simp; omega), Array.getElem_toList]
  · rw [List.getElem?_eq_none (by simp; omega), List.getElem?_eq_none (by rw [length_c4]; simp; omega)]
theorem d4_newsT {w : World} {ad : Addr} {l : List D4} (h : D4C w (some ad) l) : ∀ j u, (c4 l)[j]? = some u → w.cell? (ad.add j) = some u := by
  intro j u hu
  have hj : j < l.length * 4 := by
    rcases Nat.lt_or_ge j (l.length * 4) with h | h
    · exact h
    · rw [List.getElem?_eq_none (by rw [length_c4]; exact h)] at hu; cases hu
  obtain ⟨b, off, hb, hbs, c0, c1, c2, c3⟩ := h (j / 4) (by omega)
  cases hb
  rw [add_at rfl, ← hu, get_c4Q l j hj]
  have h4 : j % 4 = 0 ∨ j % 4 = 1 ∨ j % 4 = 2 ∨ j % 4 = 3 := by omega
  rcases h4 with e | e | e | e
  · rw [e, show off + j = off + j / 4 * 4 by omega, c0]; rfl
  · rw [e, show off + j = off + j / 4 * 4 + 1 by omega, c1]; rfl
  · rw [e, show off + j = off + j / 4 * 4 + 2 by omega, c2]; rfl
  · rw [e, show off + j = off + j / 4 * 4 + 3 by omega, c3]; rfl
theorem c4_oneT {l : List D4} : ∀ u ∈ c4 l, u.oneCell' = true := by
  intro u hu
  simp only [c4, List.mem_flatMap] at hu
  obtain ⟨d, -, h⟩ := hu
  simp at h
  rcases h with rfl | rfl | rfl | rfl <;> rfl
theorem own_sortWorldS {w : World} {lo g n cap m size : Nat} {e : TypeId} {xs : List Value} {os : Array Obj} (h : w.ownsRow lo e size (.slice (some ⟨g, 0, none⟩) n cap) n xs) (F : Array Value) (hF : F.size = n * size) :
    (sortWorld id w g 0 m F os).ownsRow lo e size (.slice (some ⟨g, 0, none⟩) n cap) n F.toList := by
  obtain ⟨hl, h1⟩ := h
  rcases h1 with ⟨hv, _⟩ | ⟨g', cap', cur, hv, hg, hh, hn, hm, hc, hx⟩
  · cases hv
  cases hv
  have hgs : g < w.heap.size := by
    rcases Nat.lt_or_ge g w.heap.size with h | h
    · exact h
    · rw [Array.getElem?_eq_none h] at hh; cases hh
  have hcs : n * size ≤ cur.size := by rw [hc]; exact Nat.mul_le_mul_right size hn
  refine ⟨by simp; omega, .inr ⟨g, cap, putCells id 0 F cur, rfl, hg, ?_, hn, hm, ?_, ?_⟩⟩
  · unfold sortWorld grow putRow mapBlock
    show (Array.modify w.heap g (onCells (putCells id 0 F)) ++ os)[g]? = _
    rw [Array.getElem?_append_left (by simpa using hgs), Array.getElem?_modify, if_pos rfl, hh]
    rfl
  · unfold putCells; rw [Array.size_mapIdx]; exact hc
  · apply List.ext_getElem
    · simp [putCells]; omega
    · intro i h1 h2
      have hi : i < F.size := by simpa using h2
      simp [putCells, hi]
theorem grown_sortWorldS {w : World} {g m : Nat} {os : Array Obj} (F : Array Value) : w.grownBy (sortWorld id w g 0 m F os) (some g) := by
  refine ⟨rfl, rfl, rfl, ?_, fun k hk hd => ?_⟩
  · unfold sortWorld grow putRow mapBlock
    show _ ≤ (Array.modify w.heap g (onCells (putCells id 0 F)) ++ os).size
    rw [Array.size_append, Array.size_modify]; omega
  · unfold sortWorld grow putRow mapBlock
    show (Array.modify w.heap g (onCells (putCells id 0 F)) ++ os)[k]? = _
    rw [Array.getElem?_append_left (by rw [Array.size_modify]; exact hk), Array.getElem?_modify, if_neg (fun e => hd (by rw [e]))]
theorem ltQ (x y : D4) : ltOf cmp4 x y = lt4 x y := cmp4_neg x y
theorem lt4_ntrans {a b c : D4} (h1 : lt4 a b = false) (h2 : lt4 b c = false) : lt4 a c = false := by
  cases h : lt4 a c
  · rfl
  · cases h3 : lt4 c b
    · have e := lt4_tot h2 h3
      subst e
      rw [h] at h1; cases h1
    · have := lt4_trans h h3
      rw [this] at h1; cases h1
theorem swoQ : SWO (ltOf cmp4) where
  irrefl x := by rw [ltQ]; exact lt4_irrefl x
  trans x y z h1 h2 := by rw [ltQ] at *; exact lt4_trans h1 h2
  ntrans x y z h1 h2 := by rw [ltQ] at *; exact lt4_ntrans h1 h2
theorem own_someS {w : World} {base : Nat} {e : TypeId} {size n : Nat} {v : Value} {xs : List Value} (h : w.ownsRow base e size v n xs) (hn : 0 < n) : ∃ g c, v = .slice (some ⟨g, 0, none⟩) n c ∧ n ≤ c ∧ c ≤ maxLen := by
  rcases h.2 with ⟨_, h0⟩ | ⟨g, cap, cur, hv, _, _, h1, h2, _⟩
  · omega
  · exact ⟨g, cap, hv, h1, h2⟩
end Go.KD
namespace Go.Proofs.Ytldogbahbjompaa
open Go.RowKit Go.KD Go.Sort Go.Shelf
attribute [local go_sem] later_cell later_frozen
set_option maxRecDepth 100000 in
set_option maxHeartbeats 4000000 in
theorem cloneG_c (a : Option Addr) (cap n : Nat) (l : List D4) (w : World) (hn : n = l.length) (hA : D4C w a l) (hl : n ≤ 1048576) : Calls Try.prog 71 #[.slice a n cap] w fun e w' =>
    ∃ v, e = .returned v ∧ w'.ownsRow w.heap.size 88 4 v n (c4 l) ∧ Below w.heap.size w w' := by
  obtain ⟨i0, hi, hz0, hz1, hz2⟩ := info_parts infoA4
  have HN := Lib.hid hn; clear hn
  have he := fun (w : World) => Lib.run_eql_slice_nil (P := Try.prog) w 35 88 a n cap 0 0 Try.underlying35
  cases a with
  | none =>
    have h0 : l = [] := by
      cases l with
      | nil => rfl
      | cons x l => obtain ⟨b, off, h, _⟩ := hA 0 (by simp); cases h
    have H0 := Lib.hid h0; clear h0
    go_enter Try.func71, Try.ntmps71
    go_wp2
    go_ret
    refine ⟨_, rfl, ⟨?_, .inl ⟨rfl, ?_⟩⟩, Below.refl _ _⟩
    · rw [H0.out, HN.out, H0.out]; rfl
    · rw [HN.out, H0.out]; rfl
  | some ad =>
    have hnews : Hid (∀ j u, (c4 l)[j]? = some u → w.cell? (ad.add j) = some u) := d4_newsT hA
    have hlt : Hid (∀ j u, (c4 l)[j]? = some u → ad.block < w.heap.size) := fun j u hu => World.block_lt_of_cell? w (ad.add j) (hnews.out j u hu) |> fun h => by unfold Addr.add at h; split at h <;> exact h
    have HLC := Lib.hid (length_c4 l)
    go_enter Try.func71, Try.ntmps71
    go_wp2_with (at_builtin; refine wpList_append_own _ rfl _ _ 35 rfl w.heap.size 88 i0 (.agg #[.int .i64 0, .int .i64 0, .int .i64 0, .int .i64 0]) 4 32 Try.underlying35 hi hz0 hz1 hz2 rfl (by decide) _ _ _ rfl (World.ownsRow_lit w #[] 0 (Nat.le_refl _) (by unfold maxLen; omega) rfl) ad n cap (c4 l) rfl ?_ ?_ ?_ ?_ ?_ ?_ ?_; (rw [HLC.out, HN.out]); (intro j u hu; rw [World.cell?_alloc_lt _ _ _ (by have := hlt.out j u hu; unfold Addr.add; split <;> exact this)]; exact hnews.out j u hu); (exact c4_oneT); (unfold maxLen; omega); omega; (simp); intro v' w1 hown' hgrow _)
    go_ret
    refine ⟨_, rfl, by simpa using hown', ((Below.refl _ _).alloc (Nat.le_refl _) _).grown hgrow (by simp) (fun g hg => by cases hg; exact Nat.le_refl _)⟩
set_option maxRecDepth 100000 in
set_option maxHeartbeats 1000000 in
theorem compareGatesG_c (p q : D4) (w : World) : Calls Try.prog 75 #[.agg (encQ p).toArray, .agg (encQ q).toArray] w fun e w' =>
   e = .returned (.int .i64 (cmp4 p q)) ∧ ∃ k os', w' = grow (w.drewN k) os' := by
  obtain ⟨a, b, c, d⟩ := p
  obtain ⟨x, y, z, u⟩ := q
  show Calls Try.prog 75 #[.agg #[.int .i64 a, .int .i64 b, .int .i64 c, .int .i64 d], .agg #[.int .i64 x, .int .i64 y, .int .i64 z, .int .i64 u]] w _
  go_enter Try.func75, Try.ntmps75
  go_wp2
  refine wp_region_tail 20 (by kernel_rfl) (by kernel_rfl) ?_
  simp only [List.take_succ_cons, List.take_zero, List.drop_succ_cons, List.drop_zero]
  repeat (first | still_step | still_call (compare_c _ _ _))
  refine wpStill_nil ?_
  go_wp2_with fail
  refine (or_c _ _ _ [cmpI a x, cmpI b y, cmpI c z, cmpI d u] _ rfl ((ic_lit _ _ _ _ _ (by simp) rfl).later (Below.refl _ _).drew) (by simp)).mono ?_
  rintro e w' ⟨rfl, rfl⟩
  go_wp2_with fail
  go_ret
  refine ⟨ret_int rfl, ?_⟩
  rw [alloc_eq_grow, alloc_eq_grow, alloc_eq_grow, grow_grow, grow_grow]
  exact ⟨1, _, rfl⟩
set_option maxHeartbeats 1000000 in
theorem sortG_c (lo hi : Nat) (e : TypeId) (a : Option Addr) (cap n : Nat) (L : List D4) (w : World) (hn : n = L.length) (ho : Own lo hi w e 4 (.slice a n cap) n (c4 L)) (hl : n ≤ 1048576) :
    Calls Try.prog 74 #[.slice a n cap, .func (.func 75) #[] #[]] w fun ee w' => ee = .returned (.tuple #[]) ∧ ∃ S : List D4, S.Perm L ∧ S.Pairwise (fun x y => lt4 y x = false) ∧ Own lo hi w' e 4 (.slice a n cap) n (c4 S) ∧ Chg lo hi w w' := by
  by_cases h0 : n = 0
  · subst h0
    have hl0 : L = [] := List.length_eq_zero_iff.1 hn.symm
    subst hl0
    have h := AnyF.slices_SortFunc_none (P := Try.prog) (ρ := sortQ_ren) sortQ a cap (.func (.func 75) #[] #[]) w
    refine h.mono ?_
    rintro ee w' ⟨h1, rfl⟩
    exact ⟨h1, [], List.Perm.refl _, List.Pairwise.nil, ho, Chg.of_below (Below.refl _ _)⟩
  · obtain ⟨g, c', hs, hcapn, hcapm⟩ := own_someS ho.row (by omega : 0 < n)
    obtain ⟨rfl, rfl⟩ : a = some ⟨g, 0, none⟩ ∧ cap = c' := by cases hs; exact ⟨rfl, rfl⟩
    have hgl := own_block_lo ho.row (g := g) rfl
    have hgh := ho.top g rfl
    have hd : L.toArray.size = n := by simp [hn]
    have hgz : g < w.heap.size := by
      obtain ⟨u, hu⟩ := (own_cell ho.row 0 (by omega)).1
      rcases Nat.lt_or_ge g w.heap.size with h | h
      · exact h
      · rw [World.cell?, Array.getElem?_eq_none h] at hu; cases hu
    have hH : HoldsK encQ 4 w g 0 L.toArray := by
      intro j hj
      have hj' : j < n * 4 := by rw [size_flatK, hd] at hj; exact hj
      refine ⟨?_, by rw [Nat.zero_add]; exact (own_cell ho.row j hj').2⟩
      rw [Nat.zero_add, ho.row.cellAt j hj', get_c4Q L j (by omega)]
      have h1 := get_flatK encQ 4 L.toArray j (by rw [hd]; exact hj')
      rw [h1]
      show _ = some (id _)
      congr 3
      rw [getElem!_pos L (j / 4) (by omega), getElem!_pos L.toArray (j / 4) (by rw [hd]; omega), List.getElem_toArray]
    have eg : ∀ args w, (callFunc 75 args).run Try.prog w = .ok (.enter 75 args) w := enters_of Try.func75 (by kernel_rfl) rfl
    have h := AnyQ.slices_SortFunc_total sortQ 4 Try.isAgg88 Try.sizeOf88 encQ (fun _ => rfl) (fun x v hv => by simp [encQ] at hv; rcases hv with rfl | rfl | rfl | rfl <;> rfl) cmp4 swoQ 75 #[] g 0 cap L.toArray w eg (fun m os dk hs x y => by
      have := compareGatesG_c x y (sortWorldK encQ 4 w g 0 m dk os)
      simpa using this) hH hgz (by rw [hd]; omega) (fun x y h1 h2 => by rw [ltQ] at *; exact lt4_tot h1 h2)
    rw [hd] at h
    refine h.mono ?_
    rintro ee w' ⟨h1, q, os, rfl⟩
    have hpm : (L.toArray.toList.mergeSort fun x y => !(ltOf cmp4) y x).Perm L := List.mergeSort_perm _ _
    have hsrt := List.pairwise_mergeSort (le := fun x y => !(ltOf cmp4) y x) (fun x y z h1 h2 => by
      rw [Bool.not_eq_true', ltQ] at *
      exact lt4_ntrans h2 h1) (fun x y => by
      rw [Bool.or_eq_true, Bool.not_eq_true', Bool.not_eq_true', ltQ, ltQ]
      cases e : lt4 y x
      · exact .inl rfl
      · exact .inr (lt4_asymm e)) L
    obtain ⟨S, hSe⟩ : ∃ S, S = L.toArray.toList.mergeSort fun x y => !(ltOf cmp4) y x := ⟨_, rfl⟩
    have hsrt2 : S.Pairwise fun x y => (!(ltOf cmp4) y x) = true := by rw [hSe]; exact hsrt
    rw [← hSe] at hpm ⊢
    have hSl : S.length = n := by rw [hpm.length_eq, hn]
    have hF : (flatK encQ 4 S.toArray).size = n * 4 := by rw [size_flatK]; simp [hSl]
    have hown : (sortWorldK encQ 4 w g 0 q S.toArray os).ownsRow lo e 4 (.slice (some ⟨g, 0, none⟩) n cap) n (flatK encQ 4 S.toArray).toList := own_sortWorldS ho.row _ hF
    have hgw : w.grownBy (sortWorldK encQ 4 w g 0 q S.toArray os) (some g) := grown_sortWorldS _
    rw [flat_c4] at hown
    exact ⟨h1, S, hpm, hsrt2.imp fun {x y} h => by rw [Bool.not_eq_true', ltQ] at h; exact h, ⟨hown, fun b hb => by cases hb; exact hgh⟩, Chg.of_grown hgw (fun b hb => by cases hb; exact ⟨hgl, hgh⟩)⟩
end Go.Proofs.Ytldogbahbjompaa
