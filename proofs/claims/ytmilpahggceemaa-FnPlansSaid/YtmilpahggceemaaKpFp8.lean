/- The laying of the library's slices.SortFunc at [][4]int. Printed by plain2tpl.py out of the shelf's plain text. Gates put in order by the program: slices.Clone and slices.SortFunc at [][4]int. Printed by mk_turn1.py. The reference's gates in order: spec.l8Put. spec.l8Put: what it gives is owned. Printed by dev/mk_puto.py. -/
import Derived.Shelf.SlGeneric
import Derived.Ground.SlsfProg
import Derived.Shelf.SlSortCmp.NoneTotal
import Derived.Test.YtmilpahggceemaaProg
import Derived.Test.YtmilpahggceemaaKpFp2
import Derived.Test.YtmilpahggceemaaKpFp1
import Derived.Test.YtmilpahggceemaaKpFp3
import Derived.StillTailTactics
import Derived.Deep.DeepCutAuto
import Derived.ChangeKeysEq
set_option linter.unusedVariables false
set_option linter.unusedSimpArgs false
namespace Go.Proofs.Ytmilpahggceemaa
open Go.Shelf
def sortQ_ren : Go.Shelf.Ren := ⟨fun | 6 => 152 | 15 => 272 | 14 => 271 | 28 => 315 | 29 => 316 | 20 => 307 | 21 => 308 | 22 => 309 | 23 => 310 | 24 => 311 | 25 => 312 | 26 => 313 | 27 => 314 | 46 => 329 | 47 => 330 | 48 => 331 | 49 => 332 | 50 => 333 | 57 => 337 | n => n, fun | 22 => 34 | 24 => 54 | 25 => 109 | 3 => 3 | 39 => 119 | 0 => 0 | 53 => 191 | 55 => 96 | 4 => 4 | 46 => 195 | 45 => 194 | 50 => 58 | 5 => 5 | 9 => 9 | 66 => 206 | 70 => 210 | 76 => 214 | 77 => 126 | n => n, fun | n => n⟩
theorem sortQ : Go.Proofs.SlLaysF0.n6 Try.prog sortQ_ren := {
  mixed := by kernel_rfl
  f6 := ⟨Try.f152.name, by decide, Try.func152.trans (congrArg some (by kernel_rfl))⟩
  f14 := ⟨Try.f271.name, by decide, Try.func271.trans (congrArg some (by kernel_rfl))⟩
  f15 := Try.func272.trans (congrArg some (by kernel_rfl))
  f20 := ⟨Try.f307.name, by decide, Try.func307.trans (congrArg some (by kernel_rfl))⟩
  f21 := ⟨Try.f308.name, by decide, Try.func308.trans (congrArg some (by kernel_rfl))⟩
  f22 := ⟨Try.f309.name, by decide, Try.func309.trans (congrArg some (by kernel_rfl))⟩
  f23 := ⟨Try.f310.name, by decide, Try.func310.trans (congrArg some (by kernel_rfl))⟩
  f24 := ⟨Try.f311.name, by decide, Try.func311.trans (congrArg some (by kernel_rfl))⟩
  f25 := ⟨Try.f312.name, by decide, Try.func312.trans (congrArg some (by kernel_rfl))⟩
  f26 := ⟨Try.f313.name, by decide, Try.func313.trans (congrArg some (by kernel_rfl))⟩
  f27 := ⟨Try.f314.name, by decide, Try.func314.trans (congrArg some (by kernel_rfl))⟩
  f28 := Try.func315.trans (congrArg some (by kernel_rfl))
  f29 := Try.func316.trans (congrArg some (by kernel_rfl))
  f46 := ⟨Try.f329.name, by decide, Try.func329.trans (congrArg some (by kernel_rfl))⟩
  f47 := Try.func330.trans (congrArg some (by kernel_rfl))
  f48 := Try.func331.trans (congrArg some (by kernel_rfl))
  f49 := ⟨Try.f332.name, by decide, Try.func332.trans (congrArg some (by kernel_rfl))⟩
  f50 := ⟨Try.f333.name, by decide, Try.func333.trans (congrArg some (by kernel_rfl))⟩
  f57 := ⟨Try.f337.name, by decide, Try.func337.trans (congrArg some (by kernel_rfl))⟩
  t0 := Try.underlying0
  a0 := Try.isAgg0
  z0 := Try.sizeOf0
  v0 := Try.zeroValue0
  t3 := Try.underlying3
  a3 := Try.isAgg3
  z3 := Try.sizeOf3
  v3 := Try.zeroValue3
  t4 := Try.underlying4
  a4 := Try.isAgg4
  z4 := Try.sizeOf4
  v4 := Try.zeroValue4
  t5 := Try.underlying5
  a5 := Try.isAgg5
  z5 := Try.sizeOf5
  v5 := Try.zeroValue5
  t9 := Try.underlying9
  a9 := Try.isAgg9
  z9 := Try.sizeOf9
  v9 := Try.zeroValue9
  t22 := Try.underlying34
  a22 := Try.isAgg34
  z22 := Try.sizeOf34
  v22 := Try.zeroValue34
  t25 := Try.underlying109
  a25 := Try.isAgg109
  z25 := Try.sizeOf109
  v25 := Try.zeroValue109
  t39 := Try.underlying119
  a39 := Try.isAgg119
  z39 := Try.sizeOf119
  v39 := Try.zeroValue119
  t45 := Try.underlying194
  a45 := Try.isAgg194
  z45 := Try.sizeOf194
  v45 := Try.zeroValue194
  t46 := Try.underlying195
  a46 := Try.isAgg195
  z46 := Try.sizeOf195
  v46 := Try.zeroValue195
  t50 := Try.underlying58
  a50 := Try.isAgg58
  z50 := Try.sizeOf58
  v50 := Try.zeroValue58
  t53 := Try.underlying191
  a53 := Try.isAgg191
  z53 := Try.sizeOf191
  v53 := Try.zeroValue191
  t55 := Try.underlying96
  a55 := Try.isAgg96
  z55 := Try.sizeOf96
  v55 := Try.zeroValue96
  t66 := Try.underlying206
  a66 := Try.isAgg206
  z66 := Try.sizeOf206
  v66 := Try.zeroValue206
  t70 := Try.underlying210
  a70 := Try.isAgg210
  z70 := Try.sizeOf210
  v70 := Try.zeroValue210
  t76 := Try.underlying214
  a76 := Try.isAgg214
  z76 := Try.sizeOf214
  v76 := Try.zeroValue214
  t77 := Try.underlying126
  a77 := Try.isAgg126
  z77 := Try.sizeOf126
  v77 := Try.zeroValue126 }
end Go.Proofs.Ytmilpahggceemaa

namespace Go.KD
open Go.RowKit Go.Proofs Go.Sort
def encQ (x : D4) : List Value := [.int .i64 x.1, .int .i64 x.2.1, .int .i64 x.2.2.1, .int .i64 x.2.2.2]
theorem get_c4Q (l : List D4) (j : Nat) (hj : j < l.length * 4) : (c4 l)[j]? = some (encQ l[j / 4]!)[j % 4]! := by
  obtain ⟨h0, h1, h2, h3⟩ := get_c4 l (j / 4) (by omega)
  have h4 : j % 4 = 0 ∨ j % 4 = 1 ∨ j % 4 = 2 ∨ j % 4 = 3 := by omega
  rcases h4 with e | e | e | e
  · have : (c4 l)[j]? = (c4 l)[j / 4 * 4]? := by congr 1; omega
    rw [this, h0, e]; rfl
  · have : (c4 l)[j]? = (c4 l)[j / 4 * 4 + 1]? := by congr 1; omega
    rw [this, h1, e]; rfl
  · have : (c4 l)[j]? = (c4 l)[j / 4 * 4 + 2]? := by congr 1; omega
    rw [this, h2, e]; rfl
  · have : (c4 l)[j]? = (c4 l)[j / 4 * 4 + 3]? := by congr 1; omega
    rw [this, h3, e]; rfl
theorem flat_c4 (d : Array D4) : (flatK encQ 4 d).toList = c4 d.toList := by
  apply List.ext_getElem?
  intro j
  by_cases hj : j < d.size * 4
  · rw [get_c4Q _ j (by simpa using hj)]
    have h1 := get_flatK encQ 4 d j hj
    have hs : j < (flatK encQ 4 d).size := by rw [size_flatK]; exact hj
    rw [getElem!_pos _ j hs] at h1
    rw [List.getElem?_eq_getElem (by simpa using hs), Array.getElem_toList, h1]
    congr 2
    rw [getElem!_pos d (j / 4) (by omega), getElem!_pos d.toList (j / 4) (by simp; omega), Array.getElem_toList]
  · rw [List.getElem?_eq_none (by simp; omega), List.getElem?_eq_none (by rw [length_c4]; simp; omega)]
theorem d4_newsT {w : World} {ad : Addr} {l : List D4} (h : D4C w (some ad) l) : ∀ j u, (c4 l)[j]? = some u → w.cell? (ad.add j) = some u := by
  intro j u hu
  have hj : j < l.length * 4 := by
    rcases Nat.lt_or_ge j (l.length * 4) with h | h
    · exact h
    · rw [List.getElem?_eq_none (by rw [length_c4]; exact h)] at hu; cases hu
  obtain ⟨b, off, hb, hbs, c0, c1, c2, c3⟩ := h (j / 4) (by omega)
  cases hb
  rw [add_at rfl, ← hu, get_c4Q l j hj]
  have h4 : j % 4 = 0 ∨ j % 4 = 1 ∨ j % 4 = 2 ∨ j % 4 = 3 := by omega
  rcases h4 with e | e | e | e
  · rw [e, show off + j = off + j / 4 * 4 by omega, c0]; rfl
  · rw [e, show off + j = off + j / 4 * 4 + 1 by omega, c1]; rfl
  · rw [e, show off + j = off + j / 4 * 4 + 2 by omega, c2]; rfl
  · rw [e, show off + j = off + j / 4 * 4 + 3 by omega, c3]; rfl
theorem c4_oneT {l : List D4} : ∀ u ∈ c4 l, u.oneCell' = true := by
  intro u hu
  simp only [c4, List.mem_flatMap] at hu
  obtain ⟨d, -, h⟩ := hu
  simp at h
  rcases h with rfl | rfl | rfl | rfl <;> rfl
theorem own_sortWorldS {w : World} {lo g n cap m size : Nat} {e : TypeId} {xs : List Value} {os : Array Obj} (h : w.ownsRow lo e size (.slice (some ⟨g, 0, none⟩) n cap) n xs) (F : Array Value) (hF : F.size = n * size) :
    (sortWorld id w g 0 m F os).ownsRow lo e size (.slice (some ⟨g, 0, none⟩) n cap) n F.toList := by
  obtain ⟨hl, h1⟩ := h
  rcases h1 with ⟨hv, _⟩ | ⟨g', cap', cur, hv, hg, hh, hn, hm, hc, hx⟩
  · cases hv
  cases hv
  have hgs : g < w.heap.size := by
    rcases Nat.lt_or_ge g w.heap.size with h | h
    · exact h
    · rw [Array.getElem?_eq_none h] at hh; cases hh
  have hcs : n * size ≤ cur.size := by rw [hc]; exact Nat.mul_le_mul_right size hn
  refine ⟨by simp; omega, .inr ⟨g, cap, putCells id 0 F cur, rfl, hg, ?_, hn, hm, ?_, ?_⟩⟩
  · unfold sortWorld grow putRow mapBlock
    show (Array.modify w.heap g (onCells (putCells id 0 F)) ++ os)[g]? = _
    rw [Array.getElem?_append_left (by simpa using hgs), Array.getElem?_modify, if_pos rfl, hh]
    rfl
  · unfold putCells; rw [Array.size_mapIdx]; exact hc
  · apply List.ext_getElem
    · simp [putCells]; omega
    · intro i h1 h2
      have hi : i < F.size := by simpa using h2
      simp [putCells, hi]
theorem grown_sortWorldS {w : World} {g m : Nat} {os : Array Obj} (F : Array Value) : w.grownBy (sortWorld id w g 0 m F os) (some g) := by
  refine ⟨rfl, rfl, rfl, ?_, fun k hk hd => ?_⟩
  · unfold sortWorld grow putRow mapBlock
    show _ ≤ (Array.modify w.heap g (onCells (putCells id 0 F)) ++ os).size
    rw [Array.size_append, Array.size_modify]; omega
  · unfold sortWorld grow putRow mapBlock
    show (Array.modify w.heap g (onCells (putCells id 0 F)) ++ os)[k]? = _
    rw [Array.getElem?_append_left (by rw [Array.size_modify]; exact hk), Array.getElem?_modify, if_neg (fun e => hd (by rw [e]))]
theorem ltQ (x y : D4) : ltOf cmp4 x y = lt4 x y := cmp4_neg x y
theorem lt4_ntrans {a b c : D4} (h1 : lt4 a b = false) (h2 : lt4 b c = false) : lt4 a c = false := by
  cases h : lt4 a c
  · rfl
  · cases h3 : lt4 c b
    · have e := lt4_tot h2 h3
      subst e
      rw [h] at h1; cases h1
    · have := lt4_trans h h3
      rw [this] at h1; cases h1
theorem swoQ : SWO (ltOf cmp4) where
  irrefl x := by rw [ltQ]; exact lt4_irrefl x
  trans x y z h1 h2 := by rw [ltQ] at *; exact lt4_trans h1 h2
  ntrans x y z h1 h2 := by rw [ltQ] at *; exact lt4_ntrans h1 h2
theorem own_someS {w : World} {base : Nat} {e : TypeId} {size n : Nat} {v : Value} {xs : List Value} (h : w.ownsRow base e size v n xs) (hn : 0 < n) : ∃ g c, v = .slice (some ⟨g, 0, none⟩) n c ∧ n ≤ c ∧ c ≤ maxLen := by
  rcases h.2 with ⟨_, h0⟩ | ⟨g, cap, cur, hv, _, _, h1, h2, _⟩
  · omega
  · exact ⟨g, cap, hv, h1, h2⟩
end Go.KD
namespace Go.Proofs.Ytmilpahggceemaa
open Go.RowKit Go.KD Go.Sort Go.Shelf
attribute [local go_sem] later_cell later_frozen
set_option maxRecDepth 100000 in
set_option maxHeartbeats 4000000 in
theorem cloneG_c (a : Option Addr) (cap n : Nat) (l : List D4) (w : World) (hn : n = l.length) (hA : D4C w a l) (hl : n ≤ 1048576) : Calls Try.prog 149 #[.slice a n cap] w fun e w' =>
    ∃ v, e = .returned v ∧ w'.ownsRow w.heap.size 54 4 v n (c4 l) ∧ Below w.heap.size w w' := by
  obtain ⟨i0, hi, hz0, hz1, hz2⟩ := info_parts infoA4
  have HN := Lib.hid hn; clear hn
  have he := fun (w : World) => Lib.run_eql_slice_nil (P := Try.prog) w 34 54 a n cap 0 0 Try.underlying34
  cases a with
  | none =>
    have h0 : l = [] := by
      cases l with
      | nil => rfl
      | cons x l => obtain ⟨b, off, h, _⟩ := hA 0 (by simp); cases h
    have H0 := Lib.hid h0; clear h0
    go_enter Try.func149, Try.ntmps149
    go_wp2
    go_ret
    refine ⟨_, rfl, ⟨?_, .inl ⟨rfl, ?_⟩⟩, Below.refl _ _⟩
    · rw [H0.out, HN.out, H0.out]; rfl
    · rw [HN.out, H0.out]; rfl
  | some ad =>
    have hnews : Hid (∀ j u, (c4 l)[j]? = some u → w.cell? (ad.add j) = some u) := d4_newsT hA
    have hlt : Hid (∀ j u, (c4 l)[j]? = some u → ad.block < w.heap.size) := fun j u hu => World.block_lt_of_cell? w (ad.add j) (hnews.out j u hu) |> fun h => by unfold Addr.add at h; split at h <;> exact h
    have HLC := Lib.hid (length_c4 l)
    go_enter Try.func149, Try.ntmps149
    go_wp2_with (at_builtin; refine wpList_append_own _ rfl _ _ 34 rfl w.heap.size 54 i0 (.agg #[.int .i64 0, .int .i64 0, .int .i64 0, .int .i64 0]) 4 32 Try.underlying34 hi hz0 hz1 hz2 rfl (by decide) _ _ _ rfl (World.ownsRow_lit w #[] 0 (Nat.le_refl _) (by unfold maxLen; omega) rfl) ad n cap (c4 l) rfl ?_ ?_ ?_ ?_ ?_ ?_ ?_; (rw [HLC.out, HN.out]); (intro j u hu; rw [World.cell?_alloc_lt _ _ _ (by have := hlt.out j u hu; unfold Addr.add; split <;> exact this)]; exact hnews.out j u hu); (exact c4_oneT); (unfold maxLen; omega); omega; (simp); intro v' w1 hown' hgrow _)
    go_ret
    refine ⟨_, rfl, by simpa using hown', ((Below.refl _ _).alloc (Nat.le_refl _) _).grown hgrow (by simp) (fun g hg => by cases hg; exact Nat.le_refl _)⟩
set_option maxRecDepth 100000 in
set_option maxHeartbeats 1000000 in
theorem compareGatesG_c (p q : D4) (w : World) : Calls Try.prog 153 #[.agg (encQ p).toArray, .agg (encQ q).toArray] w fun e w' =>
   e = .returned (.int .i64 (cmp4 p q)) ∧ ∃ k os', w' = grow (w.drewN k) os' := by
  obtain ⟨a, b, c, d⟩ := p
  obtain ⟨x, y, z, u⟩ := q
  show Calls Try.prog 153 #[.agg #[.int .i64 a, .int .i64 b, .int .i64 c, .int .i64 d], .agg #[.int .i64 x, .int .i64 y, .int .i64 z, .int .i64 u]] w _
  go_enter Try.func153, Try.ntmps153
  go_wp2
  refine wp_region_tail 20 (by kernel_rfl) (by kernel_rfl) ?_
  simp only [List.take_succ_cons, List.take_zero, List.drop_succ_cons, List.drop_zero]
  repeat (first | still_step | still_call (compare_c _ _ _))
  refine wpStill_nil ?_
  go_wp2_with fail
  refine (or_c _ _ _ [cmpI a x, cmpI b y, cmpI c z, cmpI d u] _ rfl ((ic_lit _ _ _ _ _ (by simp) rfl).later (Below.refl _ _).drew) (by simp)).mono ?_
  rintro e w' ⟨rfl, rfl⟩
  go_wp2_with fail
  go_ret
  refine ⟨ret_int rfl, ?_⟩
  rw [alloc_eq_grow, alloc_eq_grow, alloc_eq_grow, grow_grow, grow_grow]
  exact ⟨1, _, rfl⟩
set_option maxHeartbeats 1000000 in
theorem sortG_c (lo hi : Nat) (e : TypeId) (a : Option Addr) (cap n : Nat) (L : List D4) (w : World) (hn : n = L.length) (ho : Own lo hi w e 4 (.slice a n cap) n (c4 L)) (hl : n ≤ 1048576) :
    Calls Try.prog 152 #[.slice a n cap, .func (.func 153) #[] #[]] w fun ee w' => ee = .returned (.tuple #[]) ∧ ∃ S : List D4, S.Perm L ∧ S.Pairwise (fun x y => lt4 y x = false) ∧ Own lo hi w' e 4 (.slice a n cap) n (c4 S) ∧ Chg lo hi w w' := by
  by_cases h0 : n = 0
  · subst h0
    have hl0 : L = [] := List.length_eq_zero_iff.1 hn.symm
    subst hl0
    have h := AnyF.slices_SortFunc_none (P := Try.prog) (ρ := sortQ_ren) sortQ a cap (.func (.func 153) #[] #[]) w
    refine h.mono ?_
    rintro ee w' ⟨h1, rfl⟩
    exact ⟨h1, [], List.Perm.refl _, List.Pairwise.nil, ho, Chg.of_below (Below.refl _ _)⟩
  · obtain ⟨g, c', hs, hcapn, hcapm⟩ := own_someS ho.row (by omega : 0 < n)
    obtain ⟨rfl, rfl⟩ : a = some ⟨g, 0, none⟩ ∧ cap = c' := by cases hs; exact ⟨rfl, rfl⟩
    have hgl := own_block_lo ho.row (g := g) rfl
    have hgh := ho.top g rfl
    have hd : L.toArray.size = n := by simp [hn]
    have hgz : g < w.heap.size := by
      obtain ⟨u, hu⟩ := (own_cell ho.row 0 (by omega)).1
      rcases Nat.lt_or_ge g w.heap.size with h | h
      · exact h
      · rw [World.cell?, Array.getElem?_eq_none h] at hu; cases hu
    have hH : HoldsK encQ 4 w g 0 L.toArray := by
      intro j hj
      have hj' : j < n * 4 := by rw [size_flatK, hd] at hj; exact hj
      refine ⟨?_, by rw [Nat.zero_add]; exact (own_cell ho.row j hj').2⟩
      rw [Nat.zero_add, ho.row.cellAt j hj', get_c4Q L j (by omega)]
      have h1 := get_flatK encQ 4 L.toArray j (by rw [hd]; exact hj')
      rw [h1]
      show _ = some (id _)
      congr 3
      rw [getElem!_pos L (j / 4) (by omega), getElem!_pos L.toArray (j / 4) (by rw [hd]; omega), List.getElem_toArray]
    have eg : ∀ args w, (callFunc 153 args).run Try.prog w = .ok (.enter 153 args) w := enters_of Try.func153 (by kernel_rfl) rfl
    have h := AnyQ.slices_SortFunc_total sortQ 4 Try.isAgg54 Try.sizeOf54 encQ (fun _ => rfl) (fun x v hv => by simp [encQ] at hv; rcases hv with rfl | rfl | rfl | rfl <;> rfl) cmp4 swoQ 153 #[] g 0 cap L.toArray w eg (fun m os dk hs x y => by
      have := compareGatesG_c x y (sortWorldK encQ 4 w g 0 m dk os)
      simpa using this) hH hgz (by rw [hd]; omega) (fun x y h1 h2 => by rw [ltQ] at *; exact lt4_tot h1 h2)
    rw [hd] at h
    refine h.mono ?_
    rintro ee w' ⟨h1, q, os, rfl⟩
    have hpm : (L.toArray.toList.mergeSort fun x y => !(ltOf cmp4) y x).Perm L := List.mergeSort_perm _ _
    have hsrt := List.pairwise_mergeSort (le := fun x y => !(ltOf cmp4) y x) (fun x y z h1 h2 => by
      rw [Bool.not_eq_true', ltQ] at *
      exact lt4_ntrans h2 h1) (fun x y => by
      rw [Bool.or_eq_true, Bool.not_eq_true', Bool.not_eq_true', ltQ, ltQ]
      cases e : lt4 y x
      · exact .inl rfl
      · exact .inr (lt4_asymm e)) L
    obtain ⟨S, hSe⟩ : ∃ S, S = L.toArray.toList.mergeSort fun x y => !(ltOf cmp4) y x := ⟨_, rfl⟩
    have hsrt2 : S.Pairwise fun x y => (!(ltOf cmp4) y x) = true := by rw [hSe]; exact hsrt
    rw [← hSe] at hpm ⊢
    have hSl : S.length = n := by rw [hpm.length_eq, hn]
    have hF : (flatK encQ 4 S.toArray).size = n * 4 := by rw [size_flatK]; simp [hSl]
    have hown : (sortWorldK encQ 4 w g 0 q S.toArray os).ownsRow lo e 4 (.slice (some ⟨g, 0, none⟩) n cap) n (flatK encQ 4 S.toArray).toList := own_sortWorldS ho.row _ hF
    have hgw : w.grownBy (sortWorldK encQ 4 w g 0 q S.toArray os) (some g) := grown_sortWorldS _
    rw [flat_c4] at hown
    exact ⟨h1, S, hpm, hsrt2.imp fun {x y} h => by rw [Bool.not_eq_true', ltQ] at h; exact h, ⟨hown, fun b hb => by cases hb; exact hgh⟩, Chg.of_grown hgw (fun b hb => by cases hb; exact ⟨hgl, hgh⟩)⟩
end Go.Proofs.Ytmilpahggceemaa

namespace Go
open Go.Op
theorem run_eql4 {P : Program} (w : World) {t e : TypeId} {i : TypeInfo} (hu : P.underlying t = some (.array 4 e)) (hi : P.info? e = some i) (he : P.underlying e = some (.int .i64)) (hc : P.cellsOf e = 1) (x y z u x' y' z' u' : Int) :
    (binOp .eql t (.agg #[.int .i64 x, .int .i64 y, .int .i64 z, .int .i64 u]) (.agg #[.int .i64 x', .int .i64 y', .int .i64 z', .int .i64 u'])).run P w = .ok (.bool (decide ((x, y, z, u) = (x', y', z', u')))) w := by
  have h1 := fun (xs ys : Array Value) => run_equalIn_array (P := P) w 9999 (t := t) xs ys hu hi
  have hr : List.range 4 = [0, 1, 2, 3] := by decide
  simp only [binOp]
  simp only [Op.equal, Op.maxDepth, Sem.run_bind, h1, hc, hr]
  simp only [Op.eqItems, Sem.run_bind]
  simp [part, isAgg, run_underlying he, run_equalIn_int w _ e .i64 .i64 _ _ he]
  by_cases a : x = x' <;> by_cases b : y = y' <;> by_cases c : z = z' <;> by_cases d : u = u' <;> simp [a, b, c, d]
end Go
namespace Go.KD
open Go.RowKit
def CVQ (W : World) (b off : Nat) (vs : List Value) : Prop := ∀ j u, vs[j]? = some u → W.cell? ((⟨b, off, none⟩ : Addr).add j) = some u
theorem CVQ.later {W W' : World} {b off : Nat} {vs : List Value} (h : CVQ W b off vs) (hb : b < W.heap.size) (hB : Below W.heap.size W W') : CVQ W' b off vs := fun j u hu => by
  have := h j u hu
  rw [add_at rfl] at this ⊢
  rw [hB.cell (p := ⟨b, off + j, none⟩) hb]; exact this
theorem cvq_take {W : World} {b off : Nat} {vs : List Value} (h : CVQ W b off vs) (k : Nat) : ∀ j u, (vs.take k)[j]? = some u → W.cell? ((⟨b, off, none⟩ : Addr).add j) = some u := by
  intro j u hu
  rw [List.getElem?_take] at hu
  split at hu
  · exact h j u hu
  · cases hu
theorem cvq_drop {W : World} {b off : Nat} {vs : List Value} (h : CVQ W b off vs) (k : Nat) : ∀ j u, (vs.drop k)[j]? = some u → W.cell? ((⟨b, off + k, none⟩ : Addr).add j) = some u := by
  intro j u hu
  rw [List.getElem?_drop] at hu
  have := h _ u hu
  rw [add_at rfl] at this ⊢
  rw [Nat.add_assoc]; exact this
theorem CVQ.d4 {W : World} {b off : Nat} {l : List D4} (h : CVQ W b off (c4 l)) (hb : b < W.heap.size) : D4C W (some ⟨b, off, none⟩) l := by
  intro k hk
  obtain ⟨h0, h1, h2, h3⟩ := get_c4 l k hk
  have e0 := h _ _ h0
  have e1 := h _ _ h1
  have e2 := h _ _ h2
  have e3 := h _ _ h3
  rw [add_at rfl] at e0 e1 e2 e3
  exact ⟨b, off, rfl, hb, e0, by rw [Nat.add_assoc]; exact e1, by rw [Nat.add_assoc]; exact e2, by rw [Nat.add_assoc]; exact e3⟩
theorem c4_append (a b : List D4) : c4 (a ++ b) = c4 a ++ c4 b := by unfold c4; rw [List.flatMap_append]
theorem c4_take {l : List D4} {k : Nat} (hk : k ≤ l.length) : (c4 l).take (k * 4) = c4 (l.take k) := by
  conv => lhs; rw [← List.take_append_drop k l, c4_append]
  rw [List.take_append_of_le_length (by rw [length_c4, List.length_take]; omega), List.take_of_length_le (by rw [length_c4, List.length_take]; omega)]
theorem c4_drop {l : List D4} {k : Nat} (hk : k ≤ l.length) : (c4 l).drop (k * 4) = c4 (l.drop k) := by
  conv => lhs; rw [← List.take_append_drop k l, c4_append]
  rw [List.drop_append_of_le_length (by rw [length_c4, List.length_take]; omega), List.drop_of_length_le (by rw [length_c4, List.length_take]; omega), List.nil_append]
theorem own_emptyG {W : World} {N base size : Nat} {e : TypeId} (h : W.heap[N]? = some (.cells #[] e)) (hb : base ≤ N) : W.ownsRow base e size (.slice (some ⟨N, 0, none⟩) 0 0) 0 [] :=
  ⟨by simp, .inr ⟨N, 0, #[], rfl, hb, h, Nat.le_refl _, Nat.zero_le _, by simp, by simp⟩⟩
theorem fourAt {W : World} {g j : Nat} {x y z u : Int} {v : Value} (hu : (encQ (x, y, z, u))[j]? = some v) (h0 : W.cell? ⟨g, 0, none⟩ = some (.int .i64 x)) (h1 : W.cell? ⟨g, 1, none⟩ = some (.int .i64 y)) (h2 : W.cell? ⟨g, 2, none⟩ = some (.int .i64 z)) (h3 : W.cell? ⟨g, 3, none⟩ = some (.int .i64 u)) : W.cell? ⟨g, 0 + j, none⟩ = some v := by
  rw [Nat.zero_add]
  rcases j with _ | _ | _ | _ | j
  · simp [encQ] at hu; rw [← hu]; exact h0
  · simp [encQ] at hu; rw [← hu]; exact h1
  · simp [encQ] at hu; rw [← hu]; exact h2
  · simp [encQ] at hu; rw [← hu]; exact h3
  · simp [encQ] at hu
theorem fourNew (W : World) (T : TypeId) (x y z u : Int) : ∀ j v, (encQ (x, y, z, u))[j]? = some v → (W.alloc (.cells #[.int .i64 x, .int .i64 y, .int .i64 z, .int .i64 u] T)).cell? ((⟨W.heap.size, 0, none⟩ : Addr).add j) = some v := by
  intro j v hv
  rw [add_at rfl]
  exact fourAt hv (by simp [go_sem]) (by simp [go_sem]) (by simp [go_sem]) (by simp [go_sem])
theorem put_endQ {w3 : World} {base : Nat} {e : TypeId} {v3 : Value} {l : List D4} {n k : Nat} {g : D4} (hk : k ≤ n) (hl : l.length = n)
    (h : w3.ownsRow base e 4 v3 (0 + k + 1 + (n - k)) ([] ++ (c4 l).take (k * 4) ++ encQ g ++ (c4 l).drop (k * 4))) :
    ∃ b c', v3 = .slice (some ⟨b, 0, none⟩) (n + 1) c' ∧ CVQ w3 b 0 (c4 (l.take k ++ g :: l.drop k)) ∧ b < w3.heap.size ∧ n + 1 ≤ c' ∧ c' ≤ maxLen ∧ base ≤ b := by
  have e1 : 0 + k + 1 + (n - k) = n + 1 := by omega
  have e2 : [] ++ (c4 l).take (k * 4) ++ encQ g ++ (c4 l).drop (k * 4) = c4 (l.take k ++ g :: l.drop k) := by
    rw [c4_take (by omega), c4_drop (by omega), List.nil_append, c4_append, List.append_assoc]; rfl
  rw [e1, e2] at h
  have ho : Own base w3.heap.size w3 e 4 v3 (n + 1) (c4 (l.take k ++ g :: l.drop k)) := Own.of h
  obtain ⟨a, c, rfl, hm, hj⟩ := ho.form
  obtain ⟨b, rfl, hlo, -, hgs, -, -⟩ := hj 0 (by omega)
  obtain ⟨b2, c2, hv, hc1, hc2⟩ := own_someS h (by omega)
  cases hv
  refine ⟨b, c, rfl, fun j u hu => ?_, hgs, hc1, hc2, hlo⟩
  have hjl : j < (c4 (l.take k ++ g :: l.drop k)).length := by
    rcases Nat.lt_or_ge j (c4 (l.take k ++ g :: l.drop k)).length with h | h
    · exact h
    · rw [List.getElem?_eq_none h] at hu; cases hu
  have hle : (c4 (l.take k ++ g :: l.drop k)).length = (n + 1) * 4 := ho.size
  obtain ⟨g3, e3, -, -, -, hc, -⟩ := hj j (by omega)
  cases e3
  rw [add_at rfl, Nat.zero_add, hc]; exact hu
theorem box4Q {w wX : World} {T : TypeId} {a b c d : Value} {B : Nat} (h : Below B (w.alloc (.cells #[a, b, c, d] T)) wX) (hB : w.heap.size < B) : wX.cell? ⟨w.heap.size, 0, none⟩ = some a ∧ wX.cell? ⟨w.heap.size, 1, none⟩ = some b ∧ wX.cell? ⟨w.heap.size, 2, none⟩ = some c ∧ wX.cell? ⟨w.heap.size, 3, none⟩ = some d ∧ w.heap.size < wX.heap.size := by
  refine ⟨?_, ?_, ?_, ?_, ?_⟩
  · rw [h.cell (p := ⟨w.heap.size, 0, none⟩) hB]; simp [go_sem]
  · rw [h.cell (p := ⟨w.heap.size, 1, none⟩) hB]; simp [go_sem]
  · rw [h.cell (p := ⟨w.heap.size, 2, none⟩) hB]; simp [go_sem]
  · rw [h.cell (p := ⟨w.heap.size, 3, none⟩) hB]; simp [go_sem]
  · have := h.size; simp at this; omega
end Go.KD
namespace Go.Proofs.Ytmilpahggceemaa
open Go.RowKit Go.KD
attribute [local go_sem] later_cell later_frozen
set_option maxHeartbeats 8000000 in
theorem l8Put_c (b0 off0 cap n : Nat) (l : List D4) (x y z u : Int) (w : World) (hn : l.length = n) (hb0 : b0 < w.heap.size) (hV : CVQ w b0 off0 (c4 l)) (hcap : n ≤ cap) (hc63 : cap ≤ maxLen) (hn4 : n ≤ 4096) :
    Calls Try.prog 155 #[.slice (some ⟨b0, off0, none⟩) n cap, .agg #[.int .i64 x, .int .i64 y, .int .i64 z, .int .i64 u]] w fun e w' => ∃ b' off' c' n', e = .returned (.slice (some ⟨b', off', none⟩) n' c') ∧ (putG l (x, y, z, u)).length = n' ∧ n' ≤ c' ∧ c' ≤ maxLen ∧ CVQ w' b' off' (c4 (putG l (x, y, z, u))) ∧ b' < w'.heap.size ∧ (b' = b0 ∨ w.heap.size ≤ b') ∧ Below w.heap.size w w' := by
  obtain ⟨s0, si, sz0, sz1, sz2⟩ := info_parts infoA4
  obtain ⟨i0, ji, jz0, jz1, jz2⟩ := info_parts infoI
  have hc2 : cap ≤ 9223372036854775807 := by unfold maxLen at hc63; omega
  have HLN := Lib.hid hn
  have HCL : Hid ((c4 l).length = n * 4) := by show _ = _; rw [length_c4, hn]
  have HV := Lib.hid hV
  have HD : Hid (D4C w (some ⟨b0, off0, none⟩) l) := hV.d4 hb0
  clear hn hV
  go_enter Try.func155, Try.ntmps155
  go_wp2
  go_loopw [5] (fun c wr => ∃ k : Nat, k ≤ n ∧ c = .int .i64 k ∧ Hid (∀ j, j < k → lt4 l[j]! (x, y, z, u) = true) ∧ Hid (Below (w.heap.size + 1) (w.alloc (.cells #[.int .i64 x, .int .i64 y, .int .i64 z, .int .i64 u] 54)) wr)) (fun c _ => n - (intOf c).toNat)
  case atStart => exact ⟨0, Nat.zero_le _, rfl, fun j hj => absurd hj (Nat.not_lt_zero j), Below.refl _ _⟩
  case round =>
    obtain ⟨wo, rfl⟩ : ∃ wo : World, wo = wr := ⟨_, rfl⟩
    obtain ⟨k, hk, rfl, HJ, HBX⟩ := hrel
    obtain ⟨q0, q1, q2, q3, zb⟩ := box4Q HBX.out (by omega)
    have HBw : Hid (Below w.heap.size w wo) := ((Below.refl _ _).alloc (Nat.le_refl _) _).trans (HBX.out.mono (by omega))
    have hz0 := HBw.out.size
    have hbo : b0 < wo.heap.size := by omega
    have hkc : (k : Int) ≤ (cap : Int) := by omega
    have hkl : (k : Int) ≤ (n : Int) := by omega
    have hlc : (n : Int) ≤ (cap : Int) := by omega
    have hk0 : (0 : Int) ≤ (k : Int) := by omega
    by_cases hlt : k < n
    · have hkn : (k : Int) < (n : Int) := by omega
      obtain ⟨b, off, x1, y1, z1, u1, hbo', HY, hbs, e0, e1, e2, e3⟩ := (HD.out.later HBw.out).at k (by rw [HLN.out]; exact hlt)
      cases hbo'
      cases p1 : lt4 (x1, y1, z1, u1) (x, y, z, u)
      · have HL4 : Hid (k < n → lt4 l[k]! (x, y, z, u) = false) := fun _ => by rw [HY.out]; exact p1
        go_wp2_with fail
        refine wp_region_later (wo.heap.size) (by kernel_rfl) (by kernel_rfl) ?_
        repeat (first | go_big_quiet_skip | (go_big_quiet_want; go_big_quiet_op; (first | go_big_quiet_on | (apply Exists.intro; refine ⟨fun W => ?_, ?_⟩; (first | (go_at_call 266; exact Calls.later_of (by simp) (l8Before_c _ _ _ _ _ _ _ _ _))); go_big_quiet_on))))
        refine wpQuiet_nil ?_
        rintro w9 ⟨⟨w9', hb9⟩, h9⟩
        change w9 = w9' at h9
        subst h9
        have HBX9 : Hid (Below (w.heap.size + 1) (w.alloc (.cells #[.int .i64 x, .int .i64 y, .int .i64 z, .int .i64 u] 54)) w9) := HBX.out.trans (hb9.mono (by omega))
        clear hb9 q0 q1 q2 q3 e0 e1 e2 e3
        rw [p1]
        obtain ⟨q0, q1, q2, q3, zb9⟩ := box4Q HBX9.out (by omega)
        have HBw9 : Hid (Below w.heap.size w w9) := ((Below.refl _ _).alloc (Nat.le_refl _) _).trans (HBX9.out.mono (by omega))
        obtain ⟨b, off, x2, y2, z2, u2, hbo', HY2, hbs, e0, e1, e2, e3⟩ := (HD.out.later HBw9.out).at k (by rw [HLN.out]; exact hlt)
        cases hbo'
        obtain ⟨rfl, rfl, rfl, rfl⟩ : x2 = x1 ∧ y2 = y1 ∧ z2 = z1 ∧ u2 = u1 := by
          have h := HY2.out.symm.trans HY.out
          simpa using h
        clear HY2
        obtain ⟨cb, hcb⟩ : ∃ cb : Bool, cb = decide ((x2, y2, z2, u2) = (x, y, z, u)) := ⟨_, rfl⟩
        have he4 := fun (w : World) => run_eql4 (P := Try.prog) w Try.underlying54 ji Try.underlying3 (by kernel_rfl) x2 y2 z2 u2 x y z u
        rw [← hcb] at he4
        have HCB := Lib.hid hcb
        clear hcb
        go_wp2_with fail
        refine wp_region_later (w9.heap.size) (by kernel_rfl) (by kernel_rfl) ?_
        repeat (first | go_big_quiet_skip | (go_big_quiet_want; go_big_quiet_op; go_big_quiet_on))
        refine wpQuiet_nil ?_
        rintro w1 ⟨⟨w1', hb9⟩, h9⟩
        change w1 = w1' at h9
        subst h9
        have HBX1 : Hid (Below (w.heap.size + 1) (w.alloc (.cells #[.int .i64 x, .int .i64 y, .int .i64 z, .int .i64 u] 54)) w1) := HBX9.out.trans (hb9.mono (by omega))
        have HBw : Hid (Below w.heap.size w w1) := ((Below.refl _ _).alloc (Nat.le_refl _) _).trans (HBX1.out.mono (by omega))
        clear hb9
        cases hcc : cb
        · have HE : Hid (putG l (x, y, z, u) = l.take k ++ (x, y, z, u) :: l.drop k) := by
            show _ = _
            rw [putG_eq l _ k (by rw [HLN.out]; exact hk) HJ.out (fun _ => HL4.out hlt), if_neg]
            rintro ⟨-, h⟩
            rw [HY.out] at h
            have h5 := HCB.out
            rw [hcc] at h5
            exact absurd h (of_decide_eq_false h5.symm)
          rw [hcc] at he4
          clear hcc e0 e1 e2 e3 q0 q1 q2 q3
          obtain ⟨q0, q1, q2, q3, zb1⟩ := box4Q HBX1.out (by omega)
          have hb01 : b0 < w1.heap.size := by have := HBw.out.size; omega
          have HV1 : Hid (CVQ w1 b0 off0 (c4 l)) := HV.out.later hb0 HBw.out
          have hz2 := HBw.out.size
          clear he4
          go_upto_region 6 with fail
          by_cases hck : cap = k
          · omega
          · go_region_law (first
              | (refine step_append_below _ w1 w1.heap.size (by (repeat (first | exact Below.refl _ _ | apply Below.drew | apply below_drewN | (refine Below.setCell ?_ (by first | omega | (simp; done) | (simp; omega) | (dsimp only; omega)) _) | (refine Below.alloc ?_ (by first | omega | (simp; done) | (simp; omega) | (dsimp only; omega)) _)))) (by rfl) _ _ 34 (by rfl) 54 s0 (.agg #[.int .i64 0, .int .i64 0, .int .i64 0, .int .i64 0]) 4 32 Try.underlying34 si sz0 sz1 sz2 rfl (by decide) (.slice (some ⟨_, 0, none⟩) 0 0) 0 [] (by rfl) (own_emptyG (by first | exact heap1 w1 _ | exact heap2 w1 _ _ | exact heap3 w1 _ _) (by simp)) ⟨b0, off0, none⟩ k _ ((c4 l).take (k * 4)) (by rfl) (by rw [List.length_take, HCL.out]; omega) (cvq_take (HV1.out.later hb01 (by (repeat (first | exact Below.refl _ _ | apply Below.drew | apply below_drewN | (refine Below.setCell ?_ (by first | omega | (simp; done) | (simp; omega) | (dsimp only; omega)) _) | (refine Below.alloc ?_ (by first | omega | (simp; done) | (simp; omega) | (dsimp only; omega)) _))))) (k * 4)) (fun u hu => c4_oneT u (List.mem_of_mem_take hu)) (by unfold maxLen; omega) (by omega) (by simp; try omega) ?_; intro v1 wA ho1 hg1 hb1; have r0 := (hb1.cell (p := ⟨w.heap.size, 0, none⟩) zb1).trans q0; have r1 := (hb1.cell (p := ⟨w.heap.size, 1, none⟩) zb1).trans q1; have r2 := (hb1.cell (p := ⟨w.heap.size, 2, none⟩) zb1).trans q2; have r3 := (hb1.cell (p := ⟨w.heap.size, 3, none⟩) zb1).trans q3)
              | (refine step_append_below _ w1 w1.heap.size (hb1.alloc hb1.size _) (by rfl) _ _ 34 (by rfl) 54 s0 (.agg #[.int .i64 0, .int .i64 0, .int .i64 0, .int .i64 0]) 4 32 Try.underlying34 si sz0 sz1 sz2 rfl (by decide) _ _ _ (by rfl) (ho1.alloc _) ⟨_, 0, none⟩ 1 1 (encQ (x, y, z, u)) (by rfl) (by rfl) (fourNew _ _ x y z u) (fun t ht => c4_oneT (l := [(x, y, z, u)]) t (by simpa [c4, encQ] using ht)) (by unfold maxLen; omega) (by omega) (by have := hb1.size; simp; omega) ?_; intro v2 wB ho2 hg2 hb2)
              | (refine step_append_below _ w1 w1.heap.size hb1 (by rfl) _ _ 34 (by rfl) 54 s0 (.agg #[.int .i64 0, .int .i64 0, .int .i64 0, .int .i64 0]) 4 32 Try.underlying34 si sz0 sz1 sz2 rfl (by decide) _ _ _ (by rfl) ho1 ⟨_, 0, none⟩ 1 1 (encQ (x, y, z, u)) (by rfl) (by rfl) (by intro j u hu; rw [add_at rfl, hg1.cell_far ⟨_, _, none⟩ (by simp; try omega) (by simp [Value.ownBlock]; try omega)]; exact fourAt hu (by simp [go_sem]) (by simp [go_sem]) (by simp [go_sem]) (by simp [go_sem])) (fun t ht => c4_oneT (l := [(x, y, z, u)]) t (by simpa [c4, encQ] using ht)) (by unfold maxLen; omega) (by omega) hb1.size ?_; intro v2 wB ho2 hg2 hb2)
              | (refine step_append_below _ w1 w1.heap.size hb2 (by rfl) _ _ 34 (by rfl) 54 s0 (.agg #[.int .i64 0, .int .i64 0, .int .i64 0, .int .i64 0]) 4 32 Try.underlying34 si sz0 sz1 sz2 rfl (by decide) _ _ _ (by rfl) ho2 ⟨b0, off0 + k * 4, none⟩ (n - k) _ ((c4 l).drop (k * 4)) (by rfl) (by rw [List.length_drop, HCL.out]; omega) (cvq_drop (HV1.out.later hb01 hb2) (k * 4)) (fun u hu => c4_oneT u (List.mem_of_mem_drop hu)) (by unfold maxLen; omega) (by omega) hb2.size ?_; intro v3 wC ho3 hg3 hb3))
            all_goals
              obtain ⟨g3, c3, rfl, hi3, hs3, hr3, hm3, hlo3⟩ := put_endQ hk HLN.out ho3
              have HI := Lib.hid hi3; clear hi3
              clear ho3 ho2 ho1 hg1 hg2 hg3
              go_wp2
              go_ret
              exact ⟨g3, 0, c3, n + 1, rfl, by rw [HE.out]; simp [HLN.out] <;> omega, hr3, hm3, by rw [HE.out]; exact HI.out, hs3, .inr (by omega), HBw.out.trans (hb3.mono hz2)⟩

        · rw [hcc] at he4
          have HE : Hid (putG l (x, y, z, u) = l) := by
            show _ = _
            rw [putG_eq l _ k (by rw [HLN.out]; exact hk) HJ.out (fun _ => HL4.out hlt), if_pos]
            refine ⟨by rw [HLN.out]; exact hlt, ?_⟩
            rw [HY.out]
            have h5 := HCB.out
            rw [hcc] at h5
            exact of_decide_eq_true h5.symm
          clear hcc
          have HV1 : Hid (CVQ w1 b0 off0 (c4 l)) := HV.out.later hb0 HBw.out
          have hb01 : b0 < w1.heap.size := by have := HBw.out.size; omega
          go_wp2_with fail
          go_ret
          exact ⟨b0, off0, cap, n, rfl, by rw [HE.out]; exact HLN.out, hcap, hc63, by rw [HE.out]; exact HV1.out, hb01, .inl rfl, HBw.out⟩
      · have HJ' : Hid (∀ j, j < k + 1 → lt4 l[j]! (x, y, z, u) = true) := by
          intro j hj
          rcases Nat.lt_or_ge j k with h | h
          · exact HJ.out j h
          · obtain rfl : j = k := by omega
            rw [HY.out]; exact p1
        go_wp2_with fail
        refine wp_region_later (wo.heap.size) (by kernel_rfl) (by kernel_rfl) ?_
        repeat (first | go_big_quiet_skip | (go_big_quiet_want; go_big_quiet_op; (first | go_big_quiet_on | (apply Exists.intro; refine ⟨fun W => ?_, ?_⟩; (first | (go_at_call 266; exact Calls.later_of (by simp) (l8Before_c _ _ _ _ _ _ _ _ _))); go_big_quiet_on))))
        refine wpQuiet_nil ?_
        rintro w9 ⟨⟨w9', hb9⟩, h9⟩
        change w9 = w9' at h9
        subst h9
        have HBX9 : Hid (Below (w.heap.size + 1) (w.alloc (.cells #[.int .i64 x, .int .i64 y, .int .i64 z, .int .i64 u] 54)) w9) := HBX.out.trans (hb9.mono (by omega))
        clear hb9 q0 q1 q2 q3
        try rw [p1]
        go_wp2_with fail
        go_roundw
        case rel => exact ⟨k + 1, by omega, by go_num, HJ', HBX9⟩
        case measure => simp [intOf]; omega
    · obtain rfl : k = n := by omega
      have hd1 : decide ((k : Int) < (k : Int)) = false := by simp
      have hd2 : decide (k < k) = false := by simp
      go_wp2_with fail
      refine wp_region_later (wo.heap.size) (by kernel_rfl) (by kernel_rfl) ?_
      repeat (first | go_big_quiet_skip | (go_big_quiet_want; go_big_quiet_op; go_big_quiet_on))
      refine wpQuiet_nil ?_
      rintro w9 ⟨⟨w9', hb9⟩, h9⟩
      change w9 = w9' at h9
      subst h9
      have HBX9 : Hid (Below (w.heap.size + 1) (w.alloc (.cells #[.int .i64 x, .int .i64 y, .int .i64 z, .int .i64 u] 54)) w9) := HBX.out.trans (hb9.mono (by omega))
      clear hb9 q0 q1 q2 q3
      obtain ⟨q0, q1, q2, q3, zb9⟩ := box4Q HBX9.out (by omega)
      go_wp2_with fail
      refine wp_region_later (w9.heap.size) (by kernel_rfl) (by kernel_rfl) ?_
      repeat (first | go_big_quiet_skip | (go_big_quiet_want; go_big_quiet_op; go_big_quiet_on))
      refine wpQuiet_nil ?_
      rintro w1 ⟨⟨w1', hb9⟩, h9⟩
      change w1 = w1' at h9
      subst h9
      have HBX1 : Hid (Below (w.heap.size + 1) (w.alloc (.cells #[.int .i64 x, .int .i64 y, .int .i64 z, .int .i64 u] 54)) w1) := HBX9.out.trans (hb9.mono (by omega))
      have HBw : Hid (Below w.heap.size w w1) := ((Below.refl _ _).alloc (Nat.le_refl _) _).trans (HBX1.out.mono (by omega))
      clear hb9 q0 q1 q2 q3
      obtain ⟨q0, q1, q2, q3, zb1⟩ := box4Q HBX1.out (by omega)
      have hb01 : b0 < w1.heap.size := by have := HBw.out.size; omega
      have HV1 : Hid (CVQ w1 b0 off0 (c4 l)) := HV.out.later hb0 HBw.out
      have hz2 := HBw.out.size
      have HE : Hid (putG l (x, y, z, u) = l.take k ++ (x, y, z, u) :: l.drop k) := by
        show _ = _
        rw [putG_eq l _ k (by rw [HLN.out]; exact Nat.le_refl _) HJ.out (fun h => absurd h (by rw [HLN.out]; omega)), if_neg (fun h => absurd h.1 (by rw [HLN.out]; omega))]
      go_upto_region 6 with fail
      by_cases hck : cap = k
      · go_region_law (first
          | (refine step_append_below _ w1 w1.heap.size (by (repeat (first | exact Below.refl _ _ | apply Below.drew | apply below_drewN | (refine Below.setCell ?_ (by first | omega | (simp; done) | (simp; omega) | (dsimp only; omega)) _) | (refine Below.alloc ?_ (by first | omega | (simp; done) | (simp; omega) | (dsimp only; omega)) _)))) (by rfl) _ _ 34 (by rfl) 54 s0 (.agg #[.int .i64 0, .int .i64 0, .int .i64 0, .int .i64 0]) 4 32 Try.underlying34 si sz0 sz1 sz2 rfl (by decide) (.slice (some ⟨_, 0, none⟩) 0 0) 0 [] (by rfl) (own_emptyG (by first | exact heap1 w1 _ | exact heap2 w1 _ _ | exact heap3 w1 _ _) (by simp)) ⟨b0, off0, none⟩ k _ ((c4 l).take (k * 4)) (by rfl) (by rw [List.length_take, HCL.out]; omega) (cvq_take (HV1.out.later hb01 (by (repeat (first | exact Below.refl _ _ | apply Below.drew | apply below_drewN | (refine Below.setCell ?_ (by first | omega | (simp; done) | (simp; omega) | (dsimp only; omega)) _) | (refine Below.alloc ?_ (by first | omega | (simp; done) | (simp; omega) | (dsimp only; omega)) _))))) (k * 4)) (fun u hu => c4_oneT u (List.mem_of_mem_take hu)) (by unfold maxLen; omega) (by omega) (by simp; try omega) ?_; intro v1 wA ho1 hg1 hb1; have r0 := (hb1.cell (p := ⟨w.heap.size, 0, none⟩) zb1).trans q0; have r1 := (hb1.cell (p := ⟨w.heap.size, 1, none⟩) zb1).trans q1; have r2 := (hb1.cell (p := ⟨w.heap.size, 2, none⟩) zb1).trans q2; have r3 := (hb1.cell (p := ⟨w.heap.size, 3, none⟩) zb1).trans q3)
          | (refine step_append_below _ w1 w1.heap.size (hb1.alloc hb1.size _) (by rfl) _ _ 34 (by rfl) 54 s0 (.agg #[.int .i64 0, .int .i64 0, .int .i64 0, .int .i64 0]) 4 32 Try.underlying34 si sz0 sz1 sz2 rfl (by decide) _ _ _ (by rfl) (ho1.alloc _) ⟨_, 0, none⟩ 1 1 (encQ (x, y, z, u)) (by rfl) (by rfl) (fourNew _ _ x y z u) (fun t ht => c4_oneT (l := [(x, y, z, u)]) t (by simpa [c4, encQ] using ht)) (by unfold maxLen; omega) (by omega) (by have := hb1.size; simp; omega) ?_; intro v2 wB ho2 hg2 hb2)
          | (refine step_append_below _ w1 w1.heap.size hb1 (by rfl) _ _ 34 (by rfl) 54 s0 (.agg #[.int .i64 0, .int .i64 0, .int .i64 0, .int .i64 0]) 4 32 Try.underlying34 si sz0 sz1 sz2 rfl (by decide) _ _ _ (by rfl) ho1 ⟨_, 0, none⟩ 1 1 (encQ (x, y, z, u)) (by rfl) (by rfl) (by intro j u hu; rw [add_at rfl, hg1.cell_far ⟨_, _, none⟩ (by simp; try omega) (by simp [Value.ownBlock]; try omega)]; exact fourAt hu (by simp [go_sem]) (by simp [go_sem]) (by simp [go_sem]) (by simp [go_sem])) (fun t ht => c4_oneT (l := [(x, y, z, u)]) t (by simpa [c4, encQ] using ht)) (by unfold maxLen; omega) (by omega) hb1.size ?_; intro v2 wB ho2 hg2 hb2)
          | (refine step_append_below _ w1 w1.heap.size hb2 (by rfl) _ _ 34 (by rfl) 54 s0 (.agg #[.int .i64 0, .int .i64 0, .int .i64 0, .int .i64 0]) 4 32 Try.underlying34 si sz0 sz1 sz2 rfl (by decide) _ _ _ (by rfl) ho2 ⟨b0, off0, none⟩ 0 _ ((c4 l).drop (k * 4)) (by rfl) (by rw [List.length_drop, HCL.out]; omega) (by rw [List.drop_of_length_le (by rw [HCL.out]; omega)]; intro j u hu; simp at hu) (fun u hu => c4_oneT u (List.mem_of_mem_drop hu)) (by unfold maxLen; omega) (by omega) hb2.size ?_; intro v3 wC ho3 hg3 hb3))
        all_goals
          obtain ⟨g3, c3, rfl, hi3, hs3, hr3, hm3, hlo3⟩ := put_endQ (Nat.le_refl _) HLN.out (by rw [Nat.sub_self]; exact ho3)
          have HI := Lib.hid hi3; clear hi3
          clear ho3 ho2 ho1 hg1 hg2 hg3
          go_wp2
          go_ret
          exact ⟨g3, 0, c3, k + 1, rfl, by rw [HE.out]; simp [HLN.out] <;> omega, hr3, hm3, by rw [HE.out]; exact HI.out, hs3, .inr (by omega), HBw.out.trans (hb3.mono hz2)⟩

      · go_region_law (first
          | (refine step_append_below _ w1 w1.heap.size (by (repeat (first | exact Below.refl _ _ | apply Below.drew | apply below_drewN | (refine Below.setCell ?_ (by first | omega | (simp; done) | (simp; omega) | (dsimp only; omega)) _) | (refine Below.alloc ?_ (by first | omega | (simp; done) | (simp; omega) | (dsimp only; omega)) _)))) (by rfl) _ _ 34 (by rfl) 54 s0 (.agg #[.int .i64 0, .int .i64 0, .int .i64 0, .int .i64 0]) 4 32 Try.underlying34 si sz0 sz1 sz2 rfl (by decide) (.slice (some ⟨_, 0, none⟩) 0 0) 0 [] (by rfl) (own_emptyG (by first | exact heap1 w1 _ | exact heap2 w1 _ _ | exact heap3 w1 _ _) (by simp)) ⟨b0, off0, none⟩ k _ ((c4 l).take (k * 4)) (by rfl) (by rw [List.length_take, HCL.out]; omega) (cvq_take (HV1.out.later hb01 (by (repeat (first | exact Below.refl _ _ | apply Below.drew | apply below_drewN | (refine Below.setCell ?_ (by first | omega | (simp; done) | (simp; omega) | (dsimp only; omega)) _) | (refine Below.alloc ?_ (by first | omega | (simp; done) | (simp; omega) | (dsimp only; omega)) _))))) (k * 4)) (fun u hu => c4_oneT u (List.mem_of_mem_take hu)) (by unfold maxLen; omega) (by omega) (by simp; try omega) ?_; intro v1 wA ho1 hg1 hb1; have r0 := (hb1.cell (p := ⟨w.heap.size, 0, none⟩) zb1).trans q0; have r1 := (hb1.cell (p := ⟨w.heap.size, 1, none⟩) zb1).trans q1; have r2 := (hb1.cell (p := ⟨w.heap.size, 2, none⟩) zb1).trans q2; have r3 := (hb1.cell (p := ⟨w.heap.size, 3, none⟩) zb1).trans q3)
          | (refine step_append_below _ w1 w1.heap.size (hb1.alloc hb1.size _) (by rfl) _ _ 34 (by rfl) 54 s0 (.agg #[.int .i64 0, .int .i64 0, .int .i64 0, .int .i64 0]) 4 32 Try.underlying34 si sz0 sz1 sz2 rfl (by decide) _ _ _ (by rfl) (ho1.alloc _) ⟨_, 0, none⟩ 1 1 (encQ (x, y, z, u)) (by rfl) (by rfl) (fourNew _ _ x y z u) (fun t ht => c4_oneT (l := [(x, y, z, u)]) t (by simpa [c4, encQ] using ht)) (by unfold maxLen; omega) (by omega) (by have := hb1.size; simp; omega) ?_; intro v2 wB ho2 hg2 hb2)
          | (refine step_append_below _ w1 w1.heap.size hb1 (by rfl) _ _ 34 (by rfl) 54 s0 (.agg #[.int .i64 0, .int .i64 0, .int .i64 0, .int .i64 0]) 4 32 Try.underlying34 si sz0 sz1 sz2 rfl (by decide) _ _ _ (by rfl) ho1 ⟨_, 0, none⟩ 1 1 (encQ (x, y, z, u)) (by rfl) (by rfl) (by intro j u hu; rw [add_at rfl, hg1.cell_far ⟨_, _, none⟩ (by simp; try omega) (by simp [Value.ownBlock]; try omega)]; exact fourAt hu (by simp [go_sem]) (by simp [go_sem]) (by simp [go_sem]) (by simp [go_sem])) (fun t ht => c4_oneT (l := [(x, y, z, u)]) t (by simpa [c4, encQ] using ht)) (by unfold maxLen; omega) (by omega) hb1.size ?_; intro v2 wB ho2 hg2 hb2)
          | (refine step_append_below _ w1 w1.heap.size hb2 (by rfl) _ _ 34 (by rfl) 54 s0 (.agg #[.int .i64 0, .int .i64 0, .int .i64 0, .int .i64 0]) 4 32 Try.underlying34 si sz0 sz1 sz2 rfl (by decide) _ _ _ (by rfl) ho2 ⟨b0, off0 + k * 4, none⟩ 0 _ ((c4 l).drop (k * 4)) (by rfl) (by rw [List.length_drop, HCL.out]; omega) (cvq_drop (HV1.out.later hb01 hb2) (k * 4)) (fun u hu => c4_oneT u (List.mem_of_mem_drop hu)) (by unfold maxLen; omega) (by omega) hb2.size ?_; intro v3 wC ho3 hg3 hb3))
        all_goals
          obtain ⟨g3, c3, rfl, hi3, hs3, hr3, hm3, hlo3⟩ := put_endQ (Nat.le_refl _) HLN.out (by rw [Nat.sub_self]; exact ho3)
          have HI := Lib.hid hi3; clear hi3
          clear ho3 ho2 ho1 hg1 hg2 hg3
          go_wp2
          go_ret
          exact ⟨g3, 0, c3, k + 1, rfl, by rw [HE.out]; simp [HLN.out] <;> omega, hr3, hm3, by rw [HE.out]; exact HI.out, hs3, .inr (by omega), HBw.out.trans (hb3.mono hz2)⟩
end Go.Proofs.Ytmilpahggceemaa

namespace Go.KD
open Go.RowKit
theorem own_belowW' {w w' : World} {lo size n : Nat} {e : TypeId} {v : Value} {xs : List Value} (h : w.ownsRow lo e size v n xs) (hb : Below w.heap.size w w') : w'.ownsRow lo e size v n xs := ((Own.of h).later hb (Nat.le_refl _)).row
theorem put_endO {w3 : World} {base base' : Nat} {e : TypeId} {v3 : Value} {l : List D4} {n k : Nat} {g : D4} (hb : base' ≤ base) (hk : k ≤ n) (hl : l.length = n)
    (h : w3.ownsRow base e 4 v3 (0 + k + 1 + (n - k)) ([] ++ (c4 l).take (k * 4) ++ encQ g ++ (c4 l).drop (k * 4))) :
    ∃ g' c', v3 = .slice (some ⟨g', 0, none⟩) (n + 1) c' ∧ w3.ownsRow base' e 4 (.slice (some ⟨g', 0, none⟩) (n + 1) c') (n + 1) (c4 (l.take k ++ g :: l.drop k)) ∧ base ≤ g' := by
  have e1 : 0 + k + 1 + (n - k) = n + 1 := by omega
  have e2 : [] ++ (c4 l).take (k * 4) ++ encQ g ++ (c4 l).drop (k * 4) = c4 (l.take k ++ g :: l.drop k) := by
    rw [c4_take (by omega), c4_drop (by omega), List.nil_append, c4_append, List.append_assoc]; rfl
  rw [e1, e2] at h
  obtain ⟨b2, c2, rfl, hc1, hc2⟩ := own_someS h (by omega)
  exact ⟨b2, c2, rfl, (Own.mono (Own.of h) hb (Nat.le_refl _)).row, own_block_lo h rfl⟩
end Go.KD
namespace Go.Proofs.Ytmilpahggceemaa
open Go.RowKit Go.KD
attribute [local go_sem] later_cell later_frozen
set_option maxHeartbeats 8000000 in
theorem l8PutO_c (base b0 off0 cap n : Nat) (hoff : off0 = 0) (l : List D4) (x y z u : Int) (w : World) (hO : w.ownsRow base 54 4 (.slice (some ⟨b0, off0, none⟩) n cap) n (c4 l)) (hbw : base ≤ w.heap.size) (hn : l.length = n) (hb0 : b0 < w.heap.size) (hV : CVQ w b0 off0 (c4 l)) (hcap : n ≤ cap) (hc63 : cap ≤ maxLen) (hn4 : n ≤ 4096) :
    Calls Try.prog 155 #[.slice (some ⟨b0, off0, none⟩) n cap, .agg #[.int .i64 x, .int .i64 y, .int .i64 z, .int .i64 u]] w fun e w' => ∃ g' n' c', e = .returned (.slice (some ⟨g', 0, none⟩) n' c') ∧ (putG l (x, y, z, u)).length = n' ∧ w'.ownsRow base 54 4 (.slice (some ⟨g', 0, none⟩) n' c') n' (c4 (putG l (x, y, z, u))) ∧ (g' = b0 ∨ w.heap.size ≤ g') ∧ Below w.heap.size w w' := by
  have HOW := Lib.hid hO
  have HOFF := Lib.hid hoff
  clear hO hoff
  obtain ⟨s0, si, sz0, sz1, sz2⟩ := info_parts infoA4
  obtain ⟨i0, ji, jz0, jz1, jz2⟩ := info_parts infoI
  have hc2 : cap ≤ 9223372036854775807 := by unfold maxLen at hc63; omega
  have HLN := Lib.hid hn
  have HCL : Hid ((c4 l).length = n * 4) := by show _ = _; rw [length_c4, hn]
  have HV := Lib.hid hV
  have HD : Hid (D4C w (some ⟨b0, off0, none⟩) l) := hV.d4 hb0
  clear hn hV
  go_enter Try.func155, Try.ntmps155
  go_wp2
  go_loopw [5] (fun c wr => ∃ k : Nat, k ≤ n ∧ c = .int .i64 k ∧ Hid (∀ j, j < k → lt4 l[j]! (x, y, z, u) = true) ∧ Hid (Below (w.heap.size + 1) (w.alloc (.cells #[.int .i64 x, .int .i64 y, .int .i64 z, .int .i64 u] 54)) wr)) (fun c _ => n - (intOf c).toNat)
  case atStart => exact ⟨0, Nat.zero_le _, rfl, fun j hj => absurd hj (Nat.not_lt_zero j), Below.refl _ _⟩
  case round =>
    obtain ⟨wo, rfl⟩ : ∃ wo : World, wo = wr := ⟨_, rfl⟩
    obtain ⟨k, hk, rfl, HJ, HBX⟩ := hrel
    obtain ⟨q0, q1, q2, q3, zb⟩ := box4Q HBX.out (by omega)
    have HBw : Hid (Below w.heap.size w wo) := ((Below.refl _ _).alloc (Nat.le_refl _) _).trans (HBX.out.mono (by omega))
    have hz0 := HBw.out.size
    have hbo : b0 < wo.heap.size := by omega
    have hkc : (k : Int) ≤ (cap : Int) := by omega
    have hkl : (k : Int) ≤ (n : Int) := by omega
    have hlc : (n : Int) ≤ (cap : Int) := by omega
    have hk0 : (0 : Int) ≤ (k : Int) := by omega
    by_cases hlt : k < n
    · have hkn : (k : Int) < (n : Int) := by omega
      obtain ⟨b, off, x1, y1, z1, u1, hbo', HY, hbs, e0, e1, e2, e3⟩ := (HD.out.later HBw.out).at k (by rw [HLN.out]; exact hlt)
      cases hbo'
      cases p1 : lt4 (x1, y1, z1, u1) (x, y, z, u)
      · have HL4 : Hid (k < n → lt4 l[k]! (x, y, z, u) = false) := fun _ => by rw [HY.out]; exact p1
        go_wp2_with fail
        refine wp_region_later (wo.heap.size) (by kernel_rfl) (by kernel_rfl) ?_
        repeat (first | go_big_quiet_skip | (go_big_quiet_want; go_big_quiet_op; (first | go_big_quiet_on | (apply Exists.intro; refine ⟨fun W => ?_, ?_⟩; (first | (go_at_call 266; exact Calls.later_of (by simp) (l8Before_c _ _ _ _ _ _ _ _ _))); go_big_quiet_on))))
        refine wpQuiet_nil ?_
        rintro w9 ⟨⟨w9', hb9⟩, h9⟩
        change w9 = w9' at h9
        subst h9
        have HBX9 : Hid (Below (w.heap.size + 1) (w.alloc (.cells #[.int .i64 x, .int .i64 y, .int .i64 z, .int .i64 u] 54)) w9) := HBX.out.trans (hb9.mono (by omega))
        clear hb9 q0 q1 q2 q3 e0 e1 e2 e3
        rw [p1]
        obtain ⟨q0, q1, q2, q3, zb9⟩ := box4Q HBX9.out (by omega)
        have HBw9 : Hid (Below w.heap.size w w9) := ((Below.refl _ _).alloc (Nat.le_refl _) _).trans (HBX9.out.mono (by omega))
        obtain ⟨b, off, x2, y2, z2, u2, hbo', HY2, hbs, e0, e1, e2, e3⟩ := (HD.out.later HBw9.out).at k (by rw [HLN.out]; exact hlt)
        cases hbo'
        obtain ⟨rfl, rfl, rfl, rfl⟩ : x2 = x1 ∧ y2 = y1 ∧ z2 = z1 ∧ u2 = u1 := by
          have h := HY2.out.symm.trans HY.out
          simpa using h
        clear HY2
        obtain ⟨cb, hcb⟩ : ∃ cb : Bool, cb = decide ((x2, y2, z2, u2) = (x, y, z, u)) := ⟨_, rfl⟩
        have he4 := fun (w : World) => run_eql4 (P := Try.prog) w Try.underlying54 ji Try.underlying3 (by kernel_rfl) x2 y2 z2 u2 x y z u
        rw [← hcb] at he4
        have HCB := Lib.hid hcb
        clear hcb
        go_wp2_with fail
        refine wp_region_later (w9.heap.size) (by kernel_rfl) (by kernel_rfl) ?_
        repeat (first | go_big_quiet_skip | (go_big_quiet_want; go_big_quiet_op; go_big_quiet_on))
        refine wpQuiet_nil ?_
        rintro w1 ⟨⟨w1', hb9⟩, h9⟩
        change w1 = w1' at h9
        subst h9
        have HBX1 : Hid (Below (w.heap.size + 1) (w.alloc (.cells #[.int .i64 x, .int .i64 y, .int .i64 z, .int .i64 u] 54)) w1) := HBX9.out.trans (hb9.mono (by omega))
        have HBw : Hid (Below w.heap.size w w1) := ((Below.refl _ _).alloc (Nat.le_refl _) _).trans (HBX1.out.mono (by omega))
        clear hb9
        cases hcc : cb
        · have HE : Hid (putG l (x, y, z, u) = l.take k ++ (x, y, z, u) :: l.drop k) := by
            show _ = _
            rw [putG_eq l _ k (by rw [HLN.out]; exact hk) HJ.out (fun _ => HL4.out hlt), if_neg]
            rintro ⟨-, h⟩
            rw [HY.out] at h
            have h5 := HCB.out
            rw [hcc] at h5
            exact absurd h (of_decide_eq_false h5.symm)
          rw [hcc] at he4
          clear hcc e0 e1 e2 e3 q0 q1 q2 q3
          obtain ⟨q0, q1, q2, q3, zb1⟩ := box4Q HBX1.out (by omega)
          have hb01 : b0 < w1.heap.size := by have := HBw.out.size; omega
          have HV1 : Hid (CVQ w1 b0 off0 (c4 l)) := HV.out.later hb0 HBw.out
          have hz2 := HBw.out.size
          clear he4
          go_upto_region 6 with fail
          by_cases hck : cap = k
          · omega
          · go_region_law (first
              | (refine step_append_below _ w1 w1.heap.size (by (repeat (first | exact Below.refl _ _ | apply Below.drew | apply below_drewN | (refine Below.setCell ?_ (by first | omega | (simp; done) | (simp; omega) | (dsimp only; omega)) _) | (refine Below.alloc ?_ (by first | omega | (simp; done) | (simp; omega) | (dsimp only; omega)) _)))) (by rfl) _ _ 34 (by rfl) 54 s0 (.agg #[.int .i64 0, .int .i64 0, .int .i64 0, .int .i64 0]) 4 32 Try.underlying34 si sz0 sz1 sz2 rfl (by decide) (.slice (some ⟨_, 0, none⟩) 0 0) 0 [] (by rfl) (own_emptyG (by first | exact heap1 w1 _ | exact heap2 w1 _ _ | exact heap3 w1 _ _) (by simp)) ⟨b0, off0, none⟩ k _ ((c4 l).take (k * 4)) (by rfl) (by rw [List.length_take, HCL.out]; omega) (cvq_take (HV1.out.later hb01 (by (repeat (first | exact Below.refl _ _ | apply Below.drew | apply below_drewN | (refine Below.setCell ?_ (by first | omega | (simp; done) | (simp; omega) | (dsimp only; omega)) _) | (refine Below.alloc ?_ (by first | omega | (simp; done) | (simp; omega) | (dsimp only; omega)) _))))) (k * 4)) (fun u hu => c4_oneT u (List.mem_of_mem_take hu)) (by unfold maxLen; omega) (by omega) (by simp; try omega) ?_; intro v1 wA ho1 hg1 hb1; have r0 := (hb1.cell (p := ⟨w.heap.size, 0, none⟩) zb1).trans q0; have r1 := (hb1.cell (p := ⟨w.heap.size, 1, none⟩) zb1).trans q1; have r2 := (hb1.cell (p := ⟨w.heap.size, 2, none⟩) zb1).trans q2; have r3 := (hb1.cell (p := ⟨w.heap.size, 3, none⟩) zb1).trans q3)
              | (refine step_append_below _ w1 w1.heap.size (hb1.alloc hb1.size _) (by rfl) _ _ 34 (by rfl) 54 s0 (.agg #[.int .i64 0, .int .i64 0, .int .i64 0, .int .i64 0]) 4 32 Try.underlying34 si sz0 sz1 sz2 rfl (by decide) _ _ _ (by rfl) (ho1.alloc _) ⟨_, 0, none⟩ 1 1 (encQ (x, y, z, u)) (by rfl) (by rfl) (fourNew _ _ x y z u) (fun t ht => c4_oneT (l := [(x, y, z, u)]) t (by simpa [c4, encQ] using ht)) (by unfold maxLen; omega) (by omega) (by have := hb1.size; simp; omega) ?_; intro v2 wB ho2 hg2 hb2)
              | (refine step_append_below _ w1 w1.heap.size hb1 (by rfl) _ _ 34 (by rfl) 54 s0 (.agg #[.int .i64 0, .int .i64 0, .int .i64 0, .int .i64 0]) 4 32 Try.underlying34 si sz0 sz1 sz2 rfl (by decide) _ _ _ (by rfl) ho1 ⟨_, 0, none⟩ 1 1 (encQ (x, y, z, u)) (by rfl) (by rfl) (by intro j u hu; rw [add_at rfl, hg1.cell_far ⟨_, _, none⟩ (by simp; try omega) (by simp [Value.ownBlock]; try omega)]; exact fourAt hu (by simp [go_sem]) (by simp [go_sem]) (by simp [go_sem]) (by simp [go_sem])) (fun t ht => c4_oneT (l := [(x, y, z, u)]) t (by simpa [c4, encQ] using ht)) (by unfold maxLen; omega) (by omega) hb1.size ?_; intro v2 wB ho2 hg2 hb2)
              | (refine step_append_below _ w1 w1.heap.size hb2 (by rfl) _ _ 34 (by rfl) 54 s0 (.agg #[.int .i64 0, .int .i64 0, .int .i64 0, .int .i64 0]) 4 32 Try.underlying34 si sz0 sz1 sz2 rfl (by decide) _ _ _ (by rfl) ho2 ⟨b0, off0 + k * 4, none⟩ (n - k) _ ((c4 l).drop (k * 4)) (by rfl) (by rw [List.length_drop, HCL.out]; omega) (cvq_drop (HV1.out.later hb01 hb2) (k * 4)) (fun u hu => c4_oneT u (List.mem_of_mem_drop hu)) (by unfold maxLen; omega) (by omega) hb2.size ?_; intro v3 wC ho3 hg3 hb3))
            all_goals
              obtain ⟨g3, c3, rfl, hi3, hlo3⟩ := put_endO (Nat.le_trans hbw (by omega)) hk HLN.out ho3
              have HI := Lib.hid hi3; clear hi3
              clear ho3 ho2 ho1 hg1 hg2 hg3
              go_wp2
              go_ret
              exact ⟨g3, n + 1, c3, rfl, by rw [HE.out]; simp [HLN.out] <;> omega, by rw [HE.out]; exact HI.out, .inr (by omega), HBw.out.trans (hb3.mono hz2)⟩

        · rw [hcc] at he4
          have HE : Hid (putG l (x, y, z, u) = l) := by
            show _ = _
            rw [putG_eq l _ k (by rw [HLN.out]; exact hk) HJ.out (fun _ => HL4.out hlt), if_pos]
            refine ⟨by rw [HLN.out]; exact hlt, ?_⟩
            rw [HY.out]
            have h5 := HCB.out
            rw [hcc] at h5
            exact of_decide_eq_true h5.symm
          clear hcc
          have HV1 : Hid (CVQ w1 b0 off0 (c4 l)) := HV.out.later hb0 HBw.out
          have hb01 : b0 < w1.heap.size := by have := HBw.out.size; omega
          go_wp2_with fail
          go_ret
          exact ⟨b0, n, cap, (by have := HOFF.out; subst this; rfl), by rw [HE.out]; exact HLN.out, by rw [HE.out]; have := HOFF.out; subst this; exact own_belowW' HOW.out HBw.out, .inl rfl, HBw.out⟩
      · have HJ' : Hid (∀ j, j < k + 1 → lt4 l[j]! (x, y, z, u) = true) := by
          intro j hj
          rcases Nat.lt_or_ge j k with h | h
          · exact HJ.out j h
          · obtain rfl : j = k := by omega
            rw [HY.out]; exact p1
        go_wp2_with fail
        refine wp_region_later (wo.heap.size) (by kernel_rfl) (by kernel_rfl) ?_
        repeat (first | go_big_quiet_skip | (go_big_quiet_want; go_big_quiet_op; (first | go_big_quiet_on | (apply Exists.intro; refine ⟨fun W => ?_, ?_⟩; (first | (go_at_call 266; exact Calls.later_of (by simp) (l8Before_c _ _ _ _ _ _ _ _ _))); go_big_quiet_on))))
        refine wpQuiet_nil ?_
        rintro w9 ⟨⟨w9', hb9⟩, h9⟩
        change w9 = w9' at h9
        subst h9
        have HBX9 : Hid (Below (w.heap.size + 1) (w.alloc (.cells #[.int .i64 x, .int .i64 y, .int .i64 z, .int .i64 u] 54)) w9) := HBX.out.trans (hb9.mono (by omega))
        clear hb9 q0 q1 q2 q3
        try rw [p1]
        go_wp2_with fail
        go_roundw
        case rel => exact ⟨k + 1, by omega, by go_num, HJ', HBX9⟩
        case measure => simp [intOf]; omega
    · obtain rfl : k = n := by omega
      have hd1 : decide ((k : Int) < (k : Int)) = false := by simp
      have hd2 : decide (k < k) = false := by simp
      go_wp2_with fail
      refine wp_region_later (wo.heap.size) (by kernel_rfl) (by kernel_rfl) ?_
      repeat (first | go_big_quiet_skip | (go_big_quiet_want; go_big_quiet_op; go_big_quiet_on))
      refine wpQuiet_nil ?_
      rintro w9 ⟨⟨w9', hb9⟩, h9⟩
      change w9 = w9' at h9
      subst h9
      have HBX9 : Hid (Below (w.heap.size + 1) (w.alloc (.cells #[.int .i64 x, .int .i64 y, .int .i64 z, .int .i64 u] 54)) w9) := HBX.out.trans (hb9.mono (by omega))
      clear hb9 q0 q1 q2 q3
      obtain ⟨q0, q1, q2, q3, zb9⟩ := box4Q HBX9.out (by omega)
      go_wp2_with fail
      refine wp_region_later (w9.heap.size) (by kernel_rfl) (by kernel_rfl) ?_
      repeat (first | go_big_quiet_skip | (go_big_quiet_want; go_big_quiet_op; go_big_quiet_on))
      refine wpQuiet_nil ?_
      rintro w1 ⟨⟨w1', hb9⟩, h9⟩
      change w1 = w1' at h9
      subst h9
      have HBX1 : Hid (Below (w.heap.size + 1) (w.alloc (.cells #[.int .i64 x, .int .i64 y, .int .i64 z, .int .i64 u] 54)) w1) := HBX9.out.trans (hb9.mono (by omega))
      have HBw : Hid (Below w.heap.size w w1) := ((Below.refl _ _).alloc (Nat.le_refl _) _).trans (HBX1.out.mono (by omega))
      clear hb9 q0 q1 q2 q3
      obtain ⟨q0, q1, q2, q3, zb1⟩ := box4Q HBX1.out (by omega)
      have hb01 : b0 < w1.heap.size := by have := HBw.out.size; omega
      have HV1 : Hid (CVQ w1 b0 off0 (c4 l)) := HV.out.later hb0 HBw.out
      have hz2 := HBw.out.size
      have HE : Hid (putG l (x, y, z, u) = l.take k ++ (x, y, z, u) :: l.drop k) := by
        show _ = _
        rw [putG_eq l _ k (by rw [HLN.out]; exact Nat.le_refl _) HJ.out (fun h => absurd h (by rw [HLN.out]; omega)), if_neg (fun h => absurd h.1 (by rw [HLN.out]; omega))]
      go_upto_region 6 with fail
      by_cases hck : cap = k
      · go_region_law (first
          | (refine step_append_below _ w1 w1.heap.size (by (repeat (first | exact Below.refl _ _ | apply Below.drew | apply below_drewN | (refine Below.setCell ?_ (by first | omega | (simp; done) | (simp; omega) | (dsimp only; omega)) _) | (refine Below.alloc ?_ (by first | omega | (simp; done) | (simp; omega) | (dsimp only; omega)) _)))) (by rfl) _ _ 34 (by rfl) 54 s0 (.agg #[.int .i64 0, .int .i64 0, .int .i64 0, .int .i64 0]) 4 32 Try.underlying34 si sz0 sz1 sz2 rfl (by decide) (.slice (some ⟨_, 0, none⟩) 0 0) 0 [] (by rfl) (own_emptyG (by first | exact heap1 w1 _ | exact heap2 w1 _ _ | exact heap3 w1 _ _) (by simp)) ⟨b0, off0, none⟩ k _ ((c4 l).take (k * 4)) (by rfl) (by rw [List.length_take, HCL.out]; omega) (cvq_take (HV1.out.later hb01 (by (repeat (first | exact Below.refl _ _ | apply Below.drew | apply below_drewN | (refine Below.setCell ?_ (by first | omega | (simp; done) | (simp; omega) | (dsimp only; omega)) _) | (refine Below.alloc ?_ (by first | omega | (simp; done) | (simp; omega) | (dsimp only; omega)) _))))) (k * 4)) (fun u hu => c4_oneT u (List.mem_of_mem_take hu)) (by unfold maxLen; omega) (by omega) (by simp; try omega) ?_; intro v1 wA ho1 hg1 hb1; have r0 := (hb1.cell (p := ⟨w.heap.size, 0, none⟩) zb1).trans q0; have r1 := (hb1.cell (p := ⟨w.heap.size, 1, none⟩) zb1).trans q1; have r2 := (hb1.cell (p := ⟨w.heap.size, 2, none⟩) zb1).trans q2; have r3 := (hb1.cell (p := ⟨w.heap.size, 3, none⟩) zb1).trans q3)
          | (refine step_append_below _ w1 w1.heap.size (hb1.alloc hb1.size _) (by rfl) _ _ 34 (by rfl) 54 s0 (.agg #[.int .i64 0, .int .i64 0, .int .i64 0, .int .i64 0]) 4 32 Try.underlying34 si sz0 sz1 sz2 rfl (by decide) _ _ _ (by rfl) (ho1.alloc _) ⟨_, 0, none⟩ 1 1 (encQ (x, y, z, u)) (by rfl) (by rfl) (fourNew _ _ x y z u) (fun t ht => c4_oneT (l := [(x, y, z, u)]) t (by simpa [c4, encQ] using ht)) (by unfold maxLen; omega) (by omega) (by have := hb1.size; simp; omega) ?_; intro v2 wB ho2 hg2 hb2)
          | (refine step_append_below _ w1 w1.heap.size hb1 (by rfl) _ _ 34 (by rfl) 54 s0 (.agg #[.int .i64 0, .int .i64 0, .int .i64 0, .int .i64 0]) 4 32 Try.underlying34 si sz0 sz1 sz2 rfl (by decide) _ _ _ (by rfl) ho1 ⟨_, 0, none⟩ 1 1 (encQ (x, y, z, u)) (by rfl) (by rfl) (by intro j u hu; rw [add_at rfl, hg1.cell_far ⟨_, _, none⟩ (by simp; try omega) (by simp [Value.ownBlock]; try omega)]; exact fourAt hu (by simp [go_sem]) (by simp [go_sem]) (by simp [go_sem]) (by simp [go_sem])) (fun t ht => c4_oneT (l := [(x, y, z, u)]) t (by simpa [c4, encQ] using ht)) (by unfold maxLen; omega) (by omega) hb1.size ?_; intro v2 wB ho2 hg2 hb2)
          | (refine step_append_below _ w1 w1.heap.size hb2 (by rfl) _ _ 34 (by rfl) 54 s0 (.agg #[.int .i64 0, .int .i64 0, .int .i64 0, .int .i64 0]) 4 32 Try.underlying34 si sz0 sz1 sz2 rfl (by decide) _ _ _ (by rfl) ho2 ⟨b0, off0, none⟩ 0 _ ((c4 l).drop (k * 4)) (by rfl) (by rw [List.length_drop, HCL.out]; omega) (by rw [List.drop_of_length_le (by rw [HCL.out]; omega)]; intro j u hu; simp at hu) (fun u hu => c4_oneT u (List.mem_of_mem_drop hu)) (by unfold maxLen; omega) (by omega) hb2.size ?_; intro v3 wC ho3 hg3 hb3))
        all_goals
          obtain ⟨g3, c3, rfl, hi3, hlo3⟩ := put_endO (Nat.le_trans hbw (by omega)) (Nat.le_refl _) HLN.out (by rw [Nat.sub_self]; exact ho3)
          have HI := Lib.hid hi3; clear hi3
          clear ho3 ho2 ho1 hg1 hg2 hg3
          go_wp2
          go_ret
          exact ⟨g3, k + 1, c3, rfl, by rw [HE.out]; simp [HLN.out] <;> omega, by rw [HE.out]; exact HI.out, .inr (by omega), HBw.out.trans (hb3.mono hz2)⟩

      · go_region_law (first
          | (refine step_append_below _ w1 w1.heap.size (by (repeat (first | exact Below.refl _ _ | apply Below.drew | apply below_drewN | (refine Below.setCell ?_ (by first | omega | (simp; done) | (simp; omega) | (dsimp only; omega)) _) | (refine Below.alloc ?_ (by first | omega | (simp; done) | (simp; omega) | (dsimp only; omega)) _)))) (by rfl) _ _ 34 (by rfl) 54 s0 (.agg #[.int .i64 0, .int .i64 0, .int .i64 0, .int .i64 0]) 4 32 Try.underlying34 si sz0 sz1 sz2 rfl (by decide) (.slice (some ⟨_, 0, none⟩) 0 0) 0 [] (by rfl) (own_emptyG (by first | exact heap1 w1 _ | exact heap2 w1 _ _ | exact heap3 w1 _ _) (by simp)) ⟨b0, off0, none⟩ k _ ((c4 l).take (k * 4)) (by rfl) (by rw [List.length_take, HCL.out]; omega) (cvq_take (HV1.out.later hb01 (by (repeat (first | exact Below.refl _ _ | apply Below.drew | apply below_drewN | (refine Below.setCell ?_ (by first | omega | (simp; done) | (simp; omega) | (dsimp only; omega)) _) | (refine Below.alloc ?_ (by first | omega | (simp; done) | (simp; omega) | (dsimp only; omega)) _))))) (k * 4)) (fun u hu => c4_oneT u (List.mem_of_mem_take hu)) (by unfold maxLen; omega) (by omega) (by simp; try omega) ?_; intro v1 wA ho1 hg1 hb1; have r0 := (hb1.cell (p := ⟨w.heap.size, 0, none⟩) zb1).trans q0; have r1 := (hb1.cell (p := ⟨w.heap.size, 1, none⟩) zb1).trans q1; have r2 := (hb1.cell (p := ⟨w.heap.size, 2, none⟩) zb1).trans q2; have r3 := (hb1.cell (p := ⟨w.heap.size, 3, none⟩) zb1).trans q3)
          | (refine step_append_below _ w1 w1.heap.size (hb1.alloc hb1.size _) (by rfl) _ _ 34 (by rfl) 54 s0 (.agg #[.int .i64 0, .int .i64 0, .int .i64 0, .int .i64 0]) 4 32 Try.underlying34 si sz0 sz1 sz2 rfl (by decide) _ _ _ (by rfl) (ho1.alloc _) ⟨_, 0, none⟩ 1 1 (encQ (x, y, z, u)) (by rfl) (by rfl) (fourNew _ _ x y z u) (fun t ht => c4_oneT (l := [(x, y, z, u)]) t (by simpa [c4, encQ] using ht)) (by unfold maxLen; omega) (by omega) (by have := hb1.size; simp; omega) ?_; intro v2 wB ho2 hg2 hb2)
          | (refine step_append_below _ w1 w1.heap.size hb1 (by rfl) _ _ 34 (by rfl) 54 s0 (.agg #[.int .i64 0, .int .i64 0, .int .i64 0, .int .i64 0]) 4 32 Try.underlying34 si sz0 sz1 sz2 rfl (by decide) _ _ _ (by rfl) ho1 ⟨_, 0, none⟩ 1 1 (encQ (x, y, z, u)) (by rfl) (by rfl) (by intro j u hu; rw [add_at rfl, hg1.cell_far ⟨_, _, none⟩ (by simp; try omega) (by simp [Value.ownBlock]; try omega)]; exact fourAt hu (by simp [go_sem]) (by simp [go_sem]) (by simp [go_sem]) (by simp [go_sem])) (fun t ht => c4_oneT (l := [(x, y, z, u)]) t (by simpa [c4, encQ] using ht)) (by unfold maxLen; omega) (by omega) hb1.size ?_; intro v2 wB ho2 hg2 hb2)
          | (refine step_append_below _ w1 w1.heap.size hb2 (by rfl) _ _ 34 (by rfl) 54 s0 (.agg #[.int .i64 0, .int .i64 0, .int .i64 0, .int .i64 0]) 4 32 Try.underlying34 si sz0 sz1 sz2 rfl (by decide) _ _ _ (by rfl) ho2 ⟨b0, off0 + k * 4, none⟩ 0 _ ((c4 l).drop (k * 4)) (by rfl) (by rw [List.length_drop, HCL.out]; omega) (cvq_drop (HV1.out.later hb01 hb2) (k * 4)) (fun u hu => c4_oneT u (List.mem_of_mem_drop hu)) (by unfold maxLen; omega) (by omega) hb2.size ?_; intro v3 wC ho3 hg3 hb3))
        all_goals
          obtain ⟨g3, c3, rfl, hi3, hlo3⟩ := put_endO (Nat.le_trans hbw (by omega)) (Nat.le_refl _) HLN.out (by rw [Nat.sub_self]; exact ho3)
          have HI := Lib.hid hi3; clear hi3
          clear ho3 ho2 ho1 hg1 hg2 hg3
          go_wp2
          go_ret
          exact ⟨g3, k + 1, c3, rfl, by rw [HE.out]; simp [HLN.out] <;> omega, by rw [HE.out]; exact HI.out, .inr (by omega), HBw.out.trans (hb3.mono hz2)⟩
end Go.Proofs.Ytmilpahggceemaa
