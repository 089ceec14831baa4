/- Clutters: the dual of the dual, plain words. -/
import Derived.Test.YtmilpahggceemaaKdClut5
set_option linter.unusedVariables false
set_option linter.unusedSimpArgs false
namespace Go.KD
open Go.RowKit
/-- Twenty chains that hold all sets. -/
def chnT : List Nat := [0, 0, 1, 0, 2, 2, 1, 0, 3, 3, 4, 3, 5, 2, 1, 0, 6, 6, 7, 6, 8, 8, 7, 6, 9, 9, 4, 3, 5, 2, 1, 0, 10, 10, 11, 10, 12, 12, 11, 10, 13, 13, 14, 13, 15, 12, 11, 10, 16, 16, 17, 16, 18, 8, 7, 6, 19, 9, 4, 3, 5, 2, 1, 0]
theorem chn_lt : ∀ a, a < 64 → chnT[a]! < 20 := by decide +kernel
theorem chn_cmp : ∀ a, a < 64 → ∀ b, b < 64 → chnT[a]! = chnT[b]! → subB a b = true ∨ subB b a = true := by decide +kernel
theorem nodup_lt : ∀ (n : Nat) (l : List Nat), l.Nodup → (∀ x ∈ l, x < n) → l.length ≤ n
  | 0, l, _, h => by
    cases l with
    | nil => simp
    | cons x l => have := h x (by simp); omega
  | n + 1, l, hn, h => by
    have h1 := nodup_lt n (l.erase n) (hn.erase n) (fun x hx => by
      have h1 := h x (List.mem_of_mem_erase hx)
      have h2 : x ≠ n := fun e => by rw [e] at hx; exact (List.Nodup.not_mem_erase hn) hx
      omega)
    have h2 := List.length_erase (a := n) (l := l)
    split at h2 <;> omega
theorem anti_len {L : List Nat} (h64 : ∀ t ∈ L, t < 64) (h1 : L.Pairwise (fun a b => keyS a < keyS b)) (h2 : L.Pairwise (fun a b => subB a b = false)) : L.length ≤ 20 := by
  have hnd : (L.map fun t => chnT[t]!).Nodup := by
    unfold List.Nodup
    rw [List.pairwise_map]
    refine List.pairwise_iff_getElem.2 fun i j hi hj hij e => ?_
    have a1 := List.pairwise_iff_getElem.1 h1 i j hi hj hij
    have a2 := List.pairwise_iff_getElem.1 h2 i j hi hj hij
    have b1 := h64 _ (List.getElem_mem hi)
    have b2 := h64 _ (List.getElem_mem hj)
    rcases chn_cmp _ b1 _ b2 e with c | c
    · rw [c] at a2; cases a2
    · by_cases e2 : L[j] = L[i]
      · rw [e2] at a1; omega
      · have := subS_key b2 b1 c e2; omega
  have := nodup_lt 20 _ hnd (fun x hx => by
    obtain ⟨t, ht, rfl⟩ := List.mem_map.1 hx
    exact chn_lt t (h64 t ht))
  simpa using this
/-- so with more colours, too -/
def UpF (is : Nat → Bool) : Prop := ∀ a b, a < 64 → b < 64 → subB a b = true → is a = true → is b = true
theorem upF_upB (L : List Nat) : UpF (upB L) := by
  intro a b _ _ h k
  unfold upB at *
  obtain ⟨t, ht, hts⟩ := List.any_eq_true.1 k
  exact List.any_eq_true.2 ⟨t, ht, subB_trans hts h⟩
theorem upF_meet (L : List Nat) : UpF (meetN L) := fun a b _ _ h k => meet_up a b h k
theorem lst_of_up {is : Nat → Bool} (hm : UpF is) : lstL (upB (thoseN is 64)) = lstL is := lstL_congr fun s h => up_those hm h
theorem mem_lst {is : Nat → Bool} (hm : UpF is) {s : Nat} : s ∈ lstL is ↔ isMin (thoseN is 64) s := by
  rw [← lst_of_up hm]; exact lst_min (fun t ht => thoseN_lt ht)
theorem mem_those {is : Nat → Bool} {s : Nat} : s ∈ thoseN is 64 ↔ s < 64 ∧ is s = true := by
  unfold thoseN; rw [List.mem_filter, List.mem_range]
theorem lst_is {is : Nat → Bool} (hm : UpF is) {s : Nat} (h : s ∈ lstL is) : s < 64 ∧ is s = true := mem_those.1 ((mem_lst hm).1 h).1
theorem lst_anti {is : Nat → Bool} (hm : UpF is) : (lstL is).Pairwise (fun a b => subB a b = false) := by
  have hs := lstL_sorted is
  refine List.pairwise_iff_getElem.2 fun i j hi hj hij => ?_
  have a1 := List.pairwise_iff_getElem.1 hs i j hi hj hij
  cases hb : subB (lstL is)[i] (lstL is)[j]
  · rfl
  · have h1 := (mem_lst hm).1 (List.getElem_mem hi)
    have h2 := (mem_lst hm).1 (List.getElem_mem hj)
    have := h2.2 _ h1.1 hb
    rw [this] at a1; omega
/-- Below each set of the family lies one of its least. -/
theorem lst_has {is : Nat → Bool} (hm : UpF is) : ∀ (n s : Nat), keyS s < n → s < 64 → is s = true → ∃ t ∈ lstL is, subB t s = true
  | 0, s, h, _, _ => by omega
  | n + 1, s, h, hs, hi => by
    by_cases hmin : s ∈ lstL is
    · exact ⟨s, hmin, subB_refl s⟩
    · have : ¬ isMin (thoseN is 64) s := fun h => hmin ((mem_lst hm).2 h)
      have : ∃ t, t ∈ thoseN is 64 ∧ subB t s = true ∧ t ≠ s := by
        refine Classical.byContradiction fun hn => this ⟨mem_those.2 ⟨hs, hi⟩, fun t ht hts => Classical.byContradiction fun hne => hn ⟨t, ht, hts, hne⟩⟩
      obtain ⟨t, ht, hts, hne⟩ := this
      obtain ⟨h1, h2⟩ := mem_those.1 ht
      have hk := subS_key h1 hs hts hne
      obtain ⟨u, hu, hut⟩ := lst_has hm n t (by omega) h1 h2
      exact ⟨u, hu, subB_trans hut hts⟩
theorem up_lst {is : Nat → Bool} (hm : UpF is) {s : Nat} (hs : s < 64) : upB (lstL is) s = is s := by
  rw [Bool.eq_iff_iff]
  unfold upB
  rw [List.any_eq_true]
  constructor
  · rintro ⟨t, ht, hts⟩
    obtain ⟨h1, h2⟩ := lst_is hm ht
    exact hm t s h1 hs hts h2
  · intro h
    exact lst_has hm (keyS s + 1) s (by omega) hs h
theorem lst_up_self {L : List Nat} (h64 : ∀ t ∈ L, t < 64) (h1 : L.Pairwise (fun a b => keyS a < keyS b)) (h2 : L.Pairwise (fun a b => subB a b = false)) : lstL (upB L) = L := by
  refine key_ext _ _ (lstL_sorted _) h1 fun s => ?_
  rw [lst_min h64]
  constructor
  · exact fun h => h.1
  · intro hs
    refine ⟨hs, fun t ht hts => ?_⟩
    obtain ⟨i, hi, rfl⟩ := List.mem_iff_getElem.1 ht
    obtain ⟨j, hj, rfl⟩ := List.mem_iff_getElem.1 hs
    rcases Nat.lt_trichotomy i j with h | h | h
    · have := List.pairwise_iff_getElem.1 h2 i j hi hj h
      rw [hts] at this; cases this
    · subst h; rfl
    · have a1 := List.pairwise_iff_getElem.1 h1 j i hj hi h
      by_cases e : L[i] = L[j]
      · exact e
      · have := subS_key (h64 _ ht) (h64 _ hs) hts e; omega
theorem meet_iff {L : List Nat} {s : Nat} : meetN L s = true ↔ ∀ t ∈ L, ∃ i, t.testBit i = true ∧ s.testBit i = true := by
  unfold meetN
  rw [List.all_eq_true]
  refine forall_congr' fun t => forall_congr' fun ht => ?_
  rw [Bool.not_eq_true', beq_eq_false_iff_ne]
  constructor
  · intro h
    refine Classical.byContradiction fun hn => h (Nat.eq_of_testBit_eq fun i => ?_)
    rw [Nat.testBit_and, Nat.zero_testBit]
    cases h1 : t.testBit i
    · rfl
    · cases h2 : s.testBit i
      · rfl
      · exact absurd ⟨i, h1, h2⟩ hn
  · rintro ⟨i, h1, h2⟩ h
    have := congrArg (fun z => Nat.testBit z i) h
    simp only [Nat.testBit_and, Nat.zero_testBit, h1, h2] at this
    cases this
theorem bit63 : ∀ i, i < 6 → ∀ s, s < 64 → (63 - s).testBit i = !s.testBit i := by decide +kernel
theorem meet_dual {L : List Nat} (h64 : ∀ t ∈ L, t < 64) {s : Nat} (hs : s < 64) : meetN (lstL (meetN L)) s = upB L s := by
  rw [Bool.eq_iff_iff]
  constructor
  · intro h
    refine Classical.byContradiction fun hn => ?_
    have hm : meetN L (63 - s) = true := by
      rw [meet_iff]
      intro t ht
      refine Classical.byContradiction fun hno => hn ?_
      unfold upB
      refine List.any_eq_true.2 ⟨t, ht, subB_iff.2 fun i hi => ?_⟩
      have hi6 : i < 6 := bit_lt (n := 6) (h64 t ht) hi
      cases hb : s.testBit i
      · exact absurd ⟨i, hi, by rw [bit63 i hi6 s hs, hb]; rfl⟩ hno
      · rfl
    obtain ⟨d, hd, hds⟩ := lst_has (upF_meet L) _ (63 - s) (Nat.lt_succ_self _) (by omega) hm
    obtain ⟨i, h1, h2⟩ := meet_iff.1 h d hd
    have hi6 : i < 6 := bit_lt (n := 6) hs h2
    have := subB_iff.1 hds i h1
    rw [bit63 i hi6 s hs, h2] at this
    cases this
  · intro h
    unfold upB at h
    obtain ⟨t, ht, hts⟩ := List.any_eq_true.1 h
    rw [meet_iff]
    intro d hd
    obtain ⟨_, hdm⟩ := lst_is (upF_meet L) hd
    obtain ⟨i, h1, h2⟩ := meet_iff.1 hdm t ht
    exact ⟨i, h2, subB_iff.1 hts i h1⟩
theorem dual_dual {L : List Nat} (h64 : ∀ t ∈ L, t < 64) (h1 : L.Pairwise (fun a b => keyS a < keyS b)) (h2 : L.Pairwise (fun a b => subB a b = false)) : lstL (meetN (lstL (meetN L))) = L := by
  rw [lstL_congr (is' := upB L) fun s hs => meet_dual h64 hs]
  exact lst_up_self h64 h1 h2
theorem natL_natsI (l : List Nat) : natL (natsI l) = l := by
  unfold natL natsI; rw [List.map_map]; simp [Function.comp_def]
theorem natsI_sets {l : List Nat} (h : ∀ t ∈ l, t < 64) : setsB (natsI l) = true := by
  unfold setsB natsI
  rw [List.all_map, List.all_eq_true]
  intro t ht
  have := h t ht
  simp only [Function.comp_apply]
  rw [setB_true]; omega
/-- The least of a family are a clutter. -/
theorem lst_isCl {is : Nat → Bool} (hm : UpF is) : isClB (natsI (lstL is)) = true := by
  unfold isClB
  rw [natL_natsI, natsI_sets (fun t ht => lstL_lt ht), natsI_len, decide_eq_true (anti_len (fun t ht => lstL_lt ht) (lstL_sorted is) (lst_anti hm)), clS_iff.2 ⟨lstL_sorted is, lst_anti hm⟩]
  rfl
theorem dual_back {l : List Int} (h : isClB l = true) {D : List Int} {b : Bool} (hp : pDualOf l = (D, b)) : b = true ∧ pDualOf D = (l, true) ∧ ∀ i, i < D.length → pMeetsAll l D[i]! = (true, true) := by
  unfold pDualOf at hp
  rw [h, if_pos rfl] at hp
  cases hp
  obtain ⟨hs, h20, hc⟩ := isClB_sets h
  obtain ⟨c1, c2⟩ := clS_iff.1 hc
  refine ⟨rfl, ?_, fun i hi => ?_⟩
  · unfold pDualOf
    rw [lst_isCl (upF_meet _), if_pos rfl, natL_natsI, dual_dual (natL_lt hs) c1 c2, nats_back hs]
  · rw [natsI_len] at hi
    rw [natsI_at hi]
    obtain ⟨h1, h2⟩ := lst_is (upF_meet (natL l)) (s := (lstL (meetN (natL l)))[i]!) (by rw [getElem!_pos _ i hi]; exact List.getElem_mem hi)
    unfold pMeetsAll
    rw [h, setB_true.2 (by omega), Bool.and_true, if_pos rfl, Int.toNat_natCast, h2]
theorem made_has {l : List Int} {M : List Int} (hp : pClutterOf l = (M, true)) : isClB M = true ∧ ∀ i, i < l.length → ∃ k, k < M.length ∧ subB (M[k]!).toNat (l[i]!).toNat = true := by
  unfold pClutterOf at hp
  split at hp
  case isFalse => cases hp
  case isTrue hs =>
    cases hp
    refine ⟨lst_isCl (upF_upB _), fun i hi => ?_⟩
    have hm : l[i]!.toNat ∈ natL l := by
      unfold natL; rw [getElem!_pos l i hi]; exact List.mem_map.2 ⟨_, List.getElem_mem hi, rfl⟩
    obtain ⟨t, ht, hts⟩ := lst_has (upF_upB (natL l)) _ (l[i]!.toNat) (Nat.lt_succ_self _) (natL_lt hs _ hm) (by unfold upB; exact List.any_eq_true.2 ⟨_, hm, subB_refl _⟩)
    obtain ⟨k, hk, rfl⟩ := List.mem_iff_getElem.1 ht
    refine ⟨k, by simpa using hk, ?_⟩
    rw [natsI_at hk, Int.toNat_natCast, getElem!_pos _ k hk]
    exact hts
end Go.KD
