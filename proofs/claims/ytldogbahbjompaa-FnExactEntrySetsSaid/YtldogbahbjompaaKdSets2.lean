/- Rows put in order by the program: slices.SortFunc at rows, impl.listed, impl.EntrySets. -/
import Derived.Test.YtldogbahbjompaaKdSets1
import Derived.Test.YtldogbahbjompaaKdSortR
import Derived.Test.YtldogbahbjompaaKdMem
import Derived.Test.YtldogbahbjompaaKdValidD
import Derived.Deep.AppendLies
set_option linter.unusedVariables false
set_option linter.unusedSimpArgs false
namespace Go.KD
open Go.RowKit Go.Proofs Go.Sort
theorem own_sortWorldR {α : Type} [Inhabited α] {enc : α → Value} {w : World} {lo g n cap m : Nat} {e : TypeId} {xs : List Value} {os : Array Obj} (h : w.ownsRow lo e 1 (.slice (some ⟨g, 0, none⟩) n cap) n xs) (d : Array α) (hd : d.size = n) :
    (sortWorld enc w g 0 m d os).ownsRow lo e 1 (.slice (some ⟨g, 0, none⟩) n cap) n (d.toList.map enc) := by
  obtain ⟨hl, h1⟩ := h
  rcases h1 with ⟨hv, _⟩ | ⟨g', cap', cur, hv, hg, hh, hn, hm, hc, hx⟩
  · cases hv
  cases hv
  have hgs : g < w.heap.size := by
    rcases Nat.lt_or_ge g w.heap.size with h | h
    · exact h
    · rw [Array.getElem?_eq_none h] at hh; cases hh
  refine ⟨by simp; omega, .inr ⟨g, cap, putCells enc 0 d cur, rfl, hg, ?_, hn, hm, ?_, ?_⟩⟩
  · unfold sortWorld grow putRow mapBlock
    show (Array.modify w.heap g (onCells (putCells enc 0 d)) ++ os)[g]? = _
    rw [Array.getElem?_append_left (by simpa using hgs), Array.getElem?_modify, if_pos rfl, hh]
    rfl
  · unfold putCells; rw [Array.size_mapIdx]; exact hc
  · have hc' : cur.size = cap * 1 := hc
    apply List.ext_getElem
    · simp [putCells]; omega
    · intro i h1 h2
      have hi : i < d.size := by simpa using h2
      simp [putCells, hi]
theorem grown_sortWorldR {α : Type} [Inhabited α] {enc : α → Value} {w : World} {g m : Nat} {os : Array Obj} (d : Array α) : w.grownBy (sortWorld enc w g 0 m d os) (some g) := by
  refine ⟨rfl, rfl, rfl, ?_, fun k hk hd => ?_⟩
  · unfold sortWorld grow putRow mapBlock
    show _ ≤ (Array.modify w.heap g (onCells (putCells enc 0 d)) ++ os).size
    rw [Array.size_append, Array.size_modify]; omega
  · unfold sortWorld grow putRow mapBlock
    show (Array.modify w.heap g (onCells (putCells enc 0 d)) ++ os)[k]? = _
    rw [Array.getElem?_append_left (by rw [Array.size_modify]; exact hk), Array.getElem?_modify, if_neg (fun e => hd (by rw [e]))]
theorem own_someR {w : World} {base : Nat} {e : TypeId} {size n : Nat} {v : Value} {xs : List Value} (h : w.ownsRow base e size v n xs) (hn : 0 < n) : ∃ g c, v = .slice (some ⟨g, 0, none⟩) n c ∧ n ≤ c ∧ c ≤ maxLen := by
  rcases h.2 with ⟨_, h0⟩ | ⟨g, cap, cur, hv, _, _, h1, h2, _⟩
  · omega
  · exact ⟨g, cap, hv, h1, h2⟩
theorem map_at {α : Type} {n : Nat} [Inhabited α] (S : List (Fin n)) (f : Fin n → α) {i : Nat} (hi : i < S.length) : (S.map f)[i]! = f S[i] := by
  rw [getElem!_pos _ i (by simpa using hi), List.getElem_map]
theorem TbOwn.perm {lo hi n g c : Nat} {w w' : World} {eS eI : TypeId} {vs : List Value} {Ls : List (List Int)} {S : List (Fin n)} (h : TbOwn lo hi w eS eI (.slice (some ⟨g, 0, none⟩) n c) n vs Ls) (hS : S.Nodup) (hl : S.length = n) (hg : w.grownBy w' (some g))
    (hr : w'.ownsRow lo eS 1 (.slice (some ⟨g, 0, none⟩) n c) n (S.map fun i => vs[i.val]!)) : TbOwn lo hi w' eS eI (.slice (some ⟨g, 0, none⟩) n c) n (S.map fun i => vs[i.val]!) (S.map fun i => Ls[i.val]!) := by
  refine ⟨⟨hr, h.row.top⟩, by simpa using hl, fun i hi => ?_, fun i j hi hj hij b hb => ?_, fun i hi b hb => ?_⟩
  · rw [map_at S _ (by omega), map_at S _ (by omega)]
    exact (h.each _ (S[i]'(by omega)).2).grown_ne hg (fun b hb e => h.off _ (S[i]'(by omega)).2 b hb (by cases e; rfl))
  · rw [map_at S _ (by omega)] at hb
    rw [map_at S _ (by omega)]
    refine h.apart _ _ (S[i]'(by omega)).2 (S[j]'(by omega)).2 (fun e => hij ?_) b hb
    exact (List.getElem_inj hS).1 (Fin.ext e)
  · rw [map_at S _ (by omega)] at hb
    exact h.off _ (S[i]'(by omega)).2 b hb
def cmpT {n : Nat} (Ls : List (List Int)) (x y : Fin n) : Int := cmpLR Ls[x.val]! Ls[y.val]!
theorem ltT {n : Nat} (Ls : List (List Int)) (x y : Fin n) : ltOf (cmpT Ls) x y = ltL Ls[x.val]! Ls[y.val]! := rfl
theorem ltL_ntrans {a b c : List Int} (h1 : ltL a b = false) (h2 : ltL b c = false) : ltL a c = false := by
  cases h : ltL a c
  · rfl
  · cases h3 : ltL c b
    · have e := ltL_tot h2 h3
      subst e
      rw [h] at h1; cases h1
    · have := ltL_trans h h3
      rw [this] at h1; cases h1
theorem swoT {n : Nat} (Ls : List (List Int)) : SWO (ltOf (cmpT (n := n) Ls)) where
  irrefl x := ltL_irrefl _
  trans x y z h1 h2 := ltL_trans h1 h2
  ntrans x y z h1 h2 := ltL_ntrans h1 h2
theorem rows_sorted {n : Nat} {Ls : List (List Int)} (hn : Ls.length = n) (nd : Ls.Nodup) {S : List (Fin n)} (hp : S.Perm (List.finRange n)) (hs : S.Pairwise (fun x y => (!(ltOf (cmpT Ls)) y x) = true)) : (S.map fun i => Ls[i.val]!) = insAll Ls := by
  have hin := insAll_ok nd
  have hSn : S.Nodup := hp.nodup_iff.2 (List.nodup_finRange n)
  refine sortedL_ext _ _ ?_ hin.1 fun x => ?_
  · rw [List.pairwise_map]
    refine (List.Pairwise.and hs hSn).imp ?_
    rintro x y ⟨h1, h2⟩
    rw [ltT, Bool.not_eq_true'] at h1
    cases h3 : ltL Ls[x.val]! Ls[y.val]!
    · have e := ltL_tot h3 h1
      have hx := x.2
      have hy := y.2
      rw [getElem!_pos Ls x.val (by omega), getElem!_pos Ls y.val (by omega)] at e
      exact absurd (Fin.ext ((List.getElem_inj nd).1 e)) h2
    · rfl
  · rw [hin.2, List.mem_map]
    constructor
    · rintro ⟨i, -, rfl⟩
      have hi := i.2
      rw [getElem!_pos Ls i.val (by omega)]; exact List.getElem_mem _
    · intro hx
      obtain ⟨i, hi, rfl⟩ := List.mem_iff_getElem.1 hx
      exact ⟨⟨i, by omega⟩, hp.mem_iff.2 (List.mem_finRange _), by rw [getElem!_pos Ls i hi]⟩
end Go.KD
namespace Go.Proofs.Ytldogbahbjompaa
open Go.RowKit Go.KD Go.Sort Go.Shelf
attribute [local go_sem] later_cell later_frozen
theorem infoSr : (Try.prog.info? 23).map (fun i => (i.zero, i.size, i.bytes)) = some (some (.slice none 0 0), 1, 24) := by kernel_rfl
set_option maxHeartbeats 1000000 in
theorem sortRows_c (lo hi : Nat) (eS eI : TypeId) (a : Option Addr) (cap n : Nat) (vs : List Value) (Ls : List (List Int)) (w : World) (h : TbOwn lo hi w eS eI (.slice a n cap) n vs Ls) (nd : Ls.Nodup) (hl : ∀ i, i < n → (Ls[i]!).length ≤ 1000000) (hn : n ≤ 1048576) :
    Calls Try.prog 123 #[.slice a n cap, .func (.func 124) #[] #[]] w fun ee w' => ee = .returned (.tuple #[]) ∧ ∃ vs', TbOwn lo hi w' eS eI (.slice a n cap) n vs' (insAll Ls) ∧ Chg lo hi w w' := by
  have hlen := h.len
  by_cases h0 : n = 0
  · subst h0
    have hl0 : Ls = [] := List.length_eq_zero_iff.1 hlen
    subst hl0
    have hh := AnyF.slices_SortFunc_none (P := Try.prog) (ρ := sortR_ren) { sortR with } a cap (.func (.func 124) #[] #[]) w
    refine hh.mono ?_
    rintro ee w' ⟨h1, rfl⟩
    exact ⟨h1, vs, h, Chg.of_below (Below.refl _ _)⟩
  · obtain ⟨g, c', hs, hcapn, hcapm⟩ := own_someR h.row.row (by omega : 0 < n)
    obtain ⟨rfl, rfl⟩ : a = some ⟨g, 0, none⟩ ∧ cap = c' := by cases hs; exact ⟨rfl, rfl⟩
    have hgl := own_block_lo h.row.row (g := g) rfl
    have hgh := h.row.top g rfl
    haveI : Inhabited (Fin n) := ⟨⟨0, by omega⟩⟩
    obtain ⟨d, hd⟩ : ∃ d : Array (Fin n), d = (List.finRange n).toArray := ⟨_, rfl⟩
    have hds : d.size = n := by rw [hd]; simp
    have hgz : g < w.heap.size := by
      obtain ⟨u, hu⟩ := (own_cell h.row.row 0 (by omega)).1
      rcases Nat.lt_or_ge g w.heap.size with h | h
      · exact h
      · rw [World.cell?, Array.getElem?_eq_none h] at hu; cases hu
    have hH : Holds (fun i : Fin n => vs[i.val]!) w g 0 d := by
      intro j hj
      have hj' : j < n := by omega
      obtain ⟨g2, e2, -, -, hc⟩ := own_at h.row hj'
      cases e2
      refine ⟨?_, by rw [Nat.zero_add]; exact (own_cell h.row.row j (by omega)).2⟩
      rw [Nat.zero_add, hc, getElem!_pos d j hj]
      congr 2
      subst hd
      simp
    have eg : ∀ args w, (callFunc 124 args).run Try.prog w = .ok (.enter 124 args) w := enters_of Try.func124 (by kernel_rfl) rfl
    have hone : OneCell (fun i : Fin n => vs[i.val]!) := by
      intro i
      obtain ⟨a', c', hv, -, -⟩ := (h.each i.val i.2).ic
      show (vs[i.val]!).oneCell' = true
      rw [hv]; rfl
    have hh := Any.slices_SortFunc_total sortR (fun i : Fin n => vs[i.val]!) hone (cmpT Ls) (swoT Ls) 124 #[] g 0 cap d w eg (fun m os dk hs x y => by
      obtain ⟨wb, hwb⟩ : ∃ wb, wb = sortWorld (fun i : Fin n => vs[i.val]!) w g 0 m dk os := ⟨_, rfl⟩
      have hgw : w.grownBy wb (some g) := by rw [hwb]; exact grown_sortWorldR dk
      rw [← hwb]
      obtain ⟨ax, cx, hvx, -, hix⟩ := ((h.each x.val x.2).grown_ne hgw (fun b hb e => h.off _ x.2 b hb (by cases e; rfl))).ic
      obtain ⟨ay, cy, hvy, -, hiy⟩ := ((h.each y.val y.2).grown_ne hgw (fun b hb e => h.off _ y.2 b hb (by cases e; rfl))).ic
      show Calls Try.prog 124 (#[vs[x.val]!, vs[y.val]!] ++ #[]) wb _
      rw [hvx, hvy]
      refine (listedClo_c ax ay cx cy _ _ wb hix hiy (hl _ x.2) (hl _ y.2)).mono ?_
      rintro e w' ⟨rfl, rfl⟩
      exact ⟨rfl, 0, _, alloc_eq_grow _ _⟩) hH hgz (by omega) (fun x y h1 h2 => by
        have e := ltL_tot h1 h2
        have hx := x.2
        have hy := y.2
        rw [getElem!_pos Ls x.val (by omega), getElem!_pos Ls y.val (by omega)] at e
        exact Fin.ext ((List.getElem_inj nd).1 e))
    rw [hds] at hh
    refine hh.mono ?_
    rintro ee w' ⟨h1, q, os, rfl⟩
    have hdl : d.toList = List.finRange n := by rw [hd]
    rw [hdl]
    have hpm : ((List.finRange n).mergeSort fun x y => !(ltOf (cmpT Ls)) y x).Perm (List.finRange n) := List.mergeSort_perm _ _
    have hsrt := List.pairwise_mergeSort (le := fun x y : Fin n => !(ltOf (cmpT Ls)) y x) (fun x y z h1 h2 => by
      rw [Bool.not_eq_true', ltT] at *
      exact ltL_ntrans h2 h1) (fun x y => by
      rw [Bool.or_eq_true, Bool.not_eq_true', Bool.not_eq_true', ltT, ltT]
      cases e : ltL Ls[y.val]! Ls[x.val]!
      · exact .inl rfl
      · exact .inr (ltL_asymm e)) (List.finRange n)
    obtain ⟨S, hSe⟩ : ∃ S, S = (List.finRange n).mergeSort fun x y => !(ltOf (cmpT Ls)) y x := ⟨_, rfl⟩
    rw [← hSe] at hpm hsrt ⊢
    have hSl : S.length = n := by rw [hpm.length_eq]; simp
    have hgw := grown_sortWorldR (enc := fun i : Fin n => vs[i.val]!) (w := w) (g := g) (m := q) (os := os) S.toArray
    have hown := own_sortWorldR (enc := fun i : Fin n => vs[i.val]!) (m := q) (os := os) h.row.row S.toArray (by simpa using hSl)
    have hT := h.perm (hpm.nodup_iff.2 (List.nodup_finRange n)) hSl hgw hown
    rw [rows_sorted hlen nd hpm hsrt] at hT
    exact ⟨h1, _, hT, Chg.of_grown hgw (fun b hb => by cases hb; exact ⟨hgl, hgh⟩)⟩
set_option maxHeartbeats 2000000 in
theorem listed_c (a : Option Addr) (cap n : Nat) (L : List Nat) (w : World) (hn : n = L.length) (hA : IC w a (natsI L)) (hL : ∀ x ∈ L, x < 4096) (nd : L.Nodup) (hln : n ≤ 4096) :
    Calls Try.prog 82 #[.slice a n cap] w fun e w' => ∃ ag cg vs, e = .returned (.slice ag n cg) ∧ TbOwn w.heap.size w'.heap.size w' 23 3 (.slice ag n cg) n vs (rowsO L) ∧ Below w.heap.size w w' := by
  obtain ⟨s0, si, sz0, sz1, sz2⟩ := info_parts infoSr
  have HN := Lib.hid hn
  have HA := Lib.hid hA
  have HL := Lib.hid hL
  have hnd : (L.map mem).Nodup := by
    unfold List.Nodup
    rw [List.pairwise_map]
    exact List.Pairwise.imp_of_mem (fun {a b} ha hb hne e => hne (mem_inj (hL a ha) (hL b hb) e)) nd
  have HND := Lib.hid hnd
  have HT0 : Hid (TbOwn w.heap.size (w.heap.size + 1) (w.alloc (.cells #[] 23)) 23 3 (.slice (some ⟨w.heap.size, 0, none⟩) 0 0) 0 [] ((L.take 0).map mem)) := by
    have ho := World.ownsRow_lit (base := w.heap.size) (e := 23) (size := 1) w #[] 0 (Nat.le_refl _) (by unfold maxLen; omega) rfl
    exact TbOwn.nil ⟨ho, fun b hb => by have : w.heap.size = b := by simpa [Value.ownBlock] using hb
                                        omega⟩
  clear hn hA hL nd hnd
  go_enter Try.func82, Try.ntmps82
  go_wp2
  go_loopw [3, 9] (fun ov iv wr => ∃ (k g c : Nat) (vs : List Value), iv = .int .i64 k ∧ k ≤ n ∧ ov = .slice (some ⟨g, 0, none⟩) k c ∧ Hid (TbOwn w.heap.size wr.heap.size wr 23 3 (.slice (some ⟨g, 0, none⟩) k c) k vs ((L.take k).map mem)) ∧ Hid (Below w.heap.size w wr)) (fun _ iv _ => n - (intOf iv).toNat)
  case atStart => exact ⟨0, w.heap.size, 0, [], rfl, Nat.zero_le _, rfl, HT0.out.mono (Nat.le_refl _) (by simp), (Below.refl _ _).alloc (Nat.le_refl _) _⟩
  case round =>
    clear HT0
    obtain ⟨wo, rfl⟩ : ∃ wo : World, wo = wr := ⟨_, rfl⟩
    obtain ⟨k, g, c, vs, rfl, hk, rfl, HO, HB⟩ := hrel
    by_cases hlt : k < n
    · have hkl : k < L.length := by rw [← HN.out]; exact hlt
      obtain ⟨b0, o0, x, rfl, HX, hb0, e0⟩ := (HA.out.later HB.out).at k (by rw [natsI_len]; exact hkl)
      have hxx : x = ((L[k]! : Nat) : Int) := by rw [← HX.out, natsI_at hkl]
      obtain ⟨y, hy⟩ : ∃ y, y = L[k]! := ⟨_, rfl⟩
      rw [← hy] at hxx
      subst hxx
      have hy4 : y < 4096 := by rw [hy, getElem!_pos L k hkl]; exact HL.out _ (List.getElem_mem _)
      have HTK : Hid ((L.take (k + 1)).map mem = (L.take k).map mem ++ [mem y]) := by
        show _ = _
        rw [take_snoc hkl, List.map_append, hy]; rfl
      have hmn : (mem y).length ≤ 40 := mem_len40 y
      obtain ⟨rn, hrn⟩ : ∃ rn, rn = (mem y).length := ⟨_, rfl⟩
      rw [← hrn] at hmn
      have HMB : Hid (Calls Try.prog 108 #[.int .i64 y] wo fun e w' => ∃ v, e = .returned v ∧ w'.ownsRow wo.heap.size 3 1 v rn (ints (mem y)) ∧ Below wo.heap.size wo w') := by
        rw [hrn]; exact members_c y (by omega) wo
      have HRN := Lib.hid hrn
      have hz0 := HB.out.size
      clear HX hy hrn
      go_wp2_with (first | (at_builtin; refine wpList_append_lies _ rfl _ _ 44 rfl w.heap.size 23 s0 (.slice none 0 0) 1 24 Try.underlying44 si sz0 sz1 sz2 rfl (by decide) (.slice (some ⟨g, 0, none⟩) k c) _ _ rfl HO3.out ⟨w3.heap.size, 0, none⟩ 1 1 [.slice a3 rn c3] rfl rfl ?_ ?_ (by omega) ?_ ?_ ?_ (w3.heap.size + 1) ?_ ?_; (exact cell_one_new _ _ _); (simp [Value.oneCell']); (unfold maxLen; omega); omega; (simp; omega); (simp); intro g5 c5 w5 hown5 hgrow5 hat5 hlt5) | (go_at_call 108; refine HMB.out.mono ?_; rintro e w3 ⟨u3, rfl, ho3, hb3⟩; obtain ⟨a3, c3, rfl⟩ := own_slice ho3; have HB3 : Hid (Below wo.heap.size wo w3) := hb3; have hz3 : wo.heap.size ≤ w3.heap.size := HB3.out.size; have HT3 : Hid (TbOwn w.heap.size wo.heap.size (w3.alloc (.cells #[.slice a3 rn c3] 23)) 23 3 (.slice (some ⟨g, 0, none⟩) k c) k vs ((L.take k).map mem)) := (HO.out.later HB3.out (Nat.le_refl _)).later (((Below.refl _ _).alloc (Nat.le_refl _) _).mono hz3) (Nat.le_refl _); have HO3 : Hid (World.ownsRow (w3.alloc (.cells #[.slice a3 rn c3] 23)) w.heap.size 23 1 (.slice (some ⟨g, 0, none⟩) k c) k vs) := HT3.out.row.row; have HN3 : Hid (Own wo.heap.size w3.heap.size (w3.alloc (.cells #[.slice a3 rn c3] 23)) 3 1 (.slice a3 rn c3) rn (ints (mem y))) := (Own.of ho3).later ((Below.refl _ _).alloc (Nat.le_refl _) _) (Nat.le_refl _); clear ho3 hb3))
      have hA5 : Below w3.heap.size w3 (w3.alloc (.cells #[.slice a3 rn c3] 23)) := (Below.refl _ _).alloc (Nat.le_refl _) _
      have hgr5 : World.grownBy (w3.alloc (.cells #[.slice a3 rn c3] 23)) w5 (some g) := hgrow5
      have hg5 : g5 = g ∨ g5 = w3.heap.size + 1 := by rcases hat5 with h | h <;> first | exact .inr h | (left; symm; simpa [Value.ownBlock] using h)
      have hgl := own_block_lo HO.out.row.row (g := g) rfl
      have hgt := HO.out.row.top g rfl
      have HO5 : Hid (TbOwn w.heap.size w5.heap.size w5 23 3 (.slice (some ⟨g5, 0, none⟩) (k + 1) c5) (k + 1) (vs ++ [.slice a3 rn c3]) ((L.take (k + 1)).map mem)) := by
        rw [HTK.out]
        refine HT3.out.push (by simp; omega) ?_ (fun i hi b hb e => ?_) (fun e => ?_) hown5 hgr5 (by rcases hg5 with h | h; exact .inl h.symm; exact .inr (by simp; omega))
        · rw [← HRN.out]
          exact HN3.out.mono (by omega) (by simp)
        · have h1 := (HT3.out.each i hi).top b hb
          have h2 := own_block_lo HN3.out.row e
          omega
        · have h2 := own_block_lo HN3.out.row e
          omega
      have HB5 : Hid (Below w.heap.size w w5) := Below.grown ((HB.out.trans (HB3.out.mono (by omega))).trans (hA5.mono (by omega))) hgr5 (by simp; omega) (fun b hb => by cases hb; exact hgl)
      clear hown5 hgrow5 hat5 hgr5 HO3 HT3 HN3
      go_wp2
      go_roundw
      case rel => exact ⟨k + 1, g5, c5, vs ++ [.slice a3 rn c3], by go_num, by omega, rfl, HO5, HB5⟩
      case measure => simp [intOf]; omega
    · obtain rfl : n = k := by omega
      have HOF : Hid (TbOwn w.heap.size wo.heap.size wo 23 3 (.slice (some ⟨g, 0, none⟩) n c) n vs (L.map mem)) := by
        have h1 := HO.out
        rw [HN.out, List.take_length] at h1
        rw [HN.out]; exact h1
      have hlen : ∀ i, i < n → ((L.map mem)[i]!).length ≤ 1000000 := fun i hi => by
        rw [getElem!_pos _ i (by simpa [← HN.out] using hi), List.getElem_map]
        have := mem_len40 (L[i]'(by rw [← HN.out]; exact hi))
        omega
      have HLEN := Lib.hid hlen
      clear hlen
      go_wp2_with (go_at_call 123; refine (sortRows_c _ _ _ _ _ _ _ _ _ _ HOF.out HND.out HLEN.out (by omega)).mono ?_; rintro e w2 ⟨rfl, vs2, ht2, hc2⟩)
      go_ret
      exact ⟨_, _, vs2, rfl, ht2.mono (Nat.le_refl _) hc2.size, HB.out.trans (hc2.below (Nat.le_refl _) HB.out.size)⟩
set_option maxHeartbeats 1000000 in
theorem implEntrySets_c (v : Value) (m : Mz) (w : World) (R : List (List Int)) (b : Bool) (hp : pEntrySets m = (R, b)) (hm : MzAt w v m) : Calls Try.prog 35 #[v] w fun e w' => ∃ ag cg vs eS eI, e = .returned (.tuple #[.slice ag R.length cg, .bool b]) ∧ TbOwn w.heap.size w'.heap.size w' eS eI (.slice ag R.length cg) R.length vs R ∧ Below w.heap.size w w' := by
  have hM := hm
  obtain ⟨⟨ad, cd, ak, ck, rfl, hd, hk'⟩, nd, nk⟩ := hM
  cases b1 : mazeB m
  · have : R = [] ∧ b = false := by unfold pEntrySets at hp; rw [b1] at hp; simpa [eq_comm] using hp
    obtain ⟨rfl, rfl⟩ := this
    have HM := Lib.hid hm
    clear hd hk' hm hp
    go_enter Try.func35, Try.ntmps35
    go_wp2_with (go_at_call 81; refine (isMaze_c _ m _ (HM.out.later (by (repeat (first | exact Below.refl _ _ | apply Below.drew | apply below_drewN | (refine Below.setCell ?_ (by first | omega | (simp; done) | (simp; omega) | (dsimp only; omega)) _) | (refine Below.alloc ?_ (by first | omega | (simp; done) | (simp; omega) | (dsimp only; omega)) _)))))).mono ?_; rintro e w1 ⟨rfl, hb1⟩; rw [b1]; have HB1 : Hid (Below w.heap.size w w1) := below_then (by (repeat (first | exact Below.refl _ _ | apply Below.drew | apply below_drewN | (refine Below.setCell ?_ (by first | omega | (simp; done) | (simp; omega) | (dsimp only; omega)) _) | (refine Below.alloc ?_ (by first | omega | (simp; done) | (simp; omega) | (dsimp only; omega)) _)))) hb1; clear hb1)
    go_ret2
    exact ⟨none, 0, [], 0, 0, rfl, TbOwn.nil ⟨⟨rfl, .inl ⟨rfl, rfl⟩⟩, fun g hg => by cases hg⟩, HB1.out⟩
  · have OK := Lib.hid (mazeB_true.1 b1)
    have HM := Lib.hid hm
    by_cases h8 : m.size ≤ 8
    · have : R = rowsO (entL m) ∧ b = true := by unfold pEntrySets at hp; rw [b1, decide_eq_true h8] at hp; simpa [eq_comm] using hp
      obtain ⟨rfl, rfl⟩ := this
      obtain ⟨n, hn⟩ : ∃ n, n = (entL m).length := ⟨_, rfl⟩
      have hrl : (rowsO (entL m)).length = n := by rw [hn]; unfold rowsO; rw [insAll_len, List.length_map]
      have hel : n ≤ 4096 := by
        rw [hn]
        unfold entL
        have h1 := entK_len m (2 ^ (m.size.toNat - 1))
        have h2 : 2 ^ (m.size.toNat - 1) ≤ 2 ^ 11 := Nat.pow_le_pow_right (by omega) (by omega)
        omega
      have hll : ∀ x ∈ entL m, x < 4096 := fun x hx => ((entL_mem OK.out).1 hx).lt OK.out
      have hnd : (entL m).Nodup := entK_nodup m _
      rw [hrl]
      obtain ⟨E, hE⟩ : ∃ E, E = entL m := ⟨_, rfl⟩
      rw [← hE] at hn hll hnd ⊢
      have HES : Hid (∀ W, Below w.heap.size w W → Calls Try.prog 83 #[.agg #[.int .i64 m.size, .slice ad m.doors.length cd, .slice ak m.keys.length ck]] W fun e w' => ∃ u, e = .returned u ∧ w'.ownsRow W.heap.size 3 1 u n (ints (natsI E)) ∧ Below W.heap.size W w') := by
        rw [hn, hE]; exact fun W hW => entrySets_c _ m W (HM.out.later hW) OK.out
      have HN := Lib.hid hn
      have HLL := Lib.hid hll
      have HND := Lib.hid hnd
      have hd8 : decide ((8 : Int) < m.size) = false := by simp; omega
      have hd9 : ¬ (8 : Int) < m.size := by omega
      clear hd hk' hm hp hE hn hll hnd hrl
      go_enter Try.func35, Try.ntmps35
      go_wp2_with (first
        | (go_at_call 81; refine (isMaze_c _ m _ (HM.out.later (by (repeat (first | exact Below.refl _ _ | apply Below.drew | apply below_drewN | (refine Below.setCell ?_ (by first | omega | (simp; done) | (simp; omega) | (dsimp only; omega)) _) | (refine Below.alloc ?_ (by first | omega | (simp; done) | (simp; omega) | (dsimp only; omega)) _)))))).mono ?_; rintro e w1 ⟨rfl, hb1⟩; rw [b1]; have HB1 : Hid (Below w.heap.size w w1) := below_then (by (repeat (first | exact Below.refl _ _ | apply Below.drew | apply below_drewN | (refine Below.setCell ?_ (by first | omega | (simp; done) | (simp; omega) | (dsimp only; omega)) _) | (refine Below.alloc ?_ (by first | omega | (simp; done) | (simp; omega) | (dsimp only; omega)) _)))) hb1; have HX1 : Hid (Below (w.heap.size + 1) (w.alloc (.cells #[.int .i64 m.size, .slice ad m.doors.length cd, .slice ak m.keys.length ck] 29)) w1) := hb1.mono (by simp); obtain ⟨q0, q1, q2, z1⟩ := box3 HX1.out (by omega); clear hb1)
        | (go_at_call 83; refine (HES.out _ HB1.out).mono ?_; rintro e w2 ⟨u, rfl, ho2, hb2⟩; obtain ⟨a2, c2, rfl⟩ := own_slice ho2; have HB2 : Hid (Below w.heap.size w w2) := below_then HB1.out hb2; have HI2 : Hid (IC w2 a2 (natsI E)) := ic_of' (Own.of ho2) (by rw [natsI_len, HN.out]); clear ho2 hb2)
        | (go_at_call 82; refine (listed_c _ _ _ E _ HN.out HI2.out HLL.out HND.out hel).mono ?_; rintro e w3 ⟨ag, cg, vs, rfl, ht3, hb3⟩; have HT3 := Lib.hid ht3; have HB3 : Hid (Below w.heap.size w w3) := below_then HB2.out hb3; have hz2 := HB2.out.size; clear ht3 hb3))
      go_ret2
      exact ⟨_, _, vs, _, _, rfl, HT3.out.mono hz2 (Nat.le_refl _), HB3.out⟩
    · have : R = [] ∧ b = false := by unfold pEntrySets at hp; rw [b1, decide_eq_false h8] at hp; simpa [eq_comm] using hp
      obtain ⟨rfl, rfl⟩ := this
      have hd8 : (8 : Int) < m.size := by omega
      clear hd hk' hm hp OK
      go_enter Try.func35, Try.ntmps35
      go_wp2_with (go_at_call 81; refine (isMaze_c _ m _ (HM.out.later (by (repeat (first | exact Below.refl _ _ | apply Below.drew | apply below_drewN | (refine Below.setCell ?_ (by first | omega | (simp; done) | (simp; omega) | (dsimp only; omega)) _) | (refine Below.alloc ?_ (by first | omega | (simp; done) | (simp; omega) | (dsimp only; omega)) _)))))).mono ?_; rintro e w1 ⟨rfl, hb1⟩; rw [b1]; have HB1 : Hid (Below w.heap.size w w1) := below_then (by (repeat (first | exact Below.refl _ _ | apply Below.drew | apply below_drewN | (refine Below.setCell ?_ (by first | omega | (simp; done) | (simp; omega) | (dsimp only; omega)) _) | (refine Below.alloc ?_ (by first | omega | (simp; done) | (simp; omega) | (dsimp only; omega)) _)))) hb1; have HX1 : Hid (Below (w.heap.size + 1) (w.alloc (.cells #[.int .i64 m.size, .slice ad m.doors.length cd, .slice ak m.keys.length ck] 29)) w1) := hb1.mono (by simp); obtain ⟨q0, q1, q2, z1⟩ := box3 HX1.out (by omega); clear hb1)
      go_ret2
      exact ⟨none, 0, [], 0, 0, rfl, TbOwn.nil ⟨⟨rfl, .inl ⟨rfl, rfl⟩⟩, fun g hg => by cases hg⟩, HB1.out⟩
end Go.Proofs.Ytldogbahbjompaa
