/- Contracts of SpanOfPulls. -/
import Derived.Test.YtmapnpgjbahabaaKdValidA
import Derived.Test.YtmapnpgjbahabaaKdValidC
import Derived.Test.YtmapnpgjbahabaaKdList
import Derived.Deep.RegionLaw
set_option linter.unusedVariables false
set_option linter.unusedSimpArgs false
namespace Go.KD
def xorI (a b : Int) : Int := ((a.toNat ^^^ b.toNat : Nat) : Int)
def spanS (l : List Int) (p : Int) : List Int := if hasI l p then l else l ++ l.reverse.map fun x => xorI x p
def spanI (l : List Int) (p : Int) : List Int := if hasI l p then l else l ++ l.map fun x => xorI x p
noncomputable def pSpan (m : Wk) : Int × Bool := if worksB m then (((m.pulls.foldl spanI [0]).length : Int), true) else (0, false)
theorem span_step {a b : List Int} (h : a.Perm b) (p : Int) : (spanS a p).Perm (spanI b p) := by
  unfold spanS spanI
  have e : hasI a p = hasI b p := by rw [Bool.eq_iff_iff, hasI_iff, hasI_iff]; exact h.mem_iff
  rw [e]
  split
  · exact h
  · exact h.append (((List.reverse_perm a).trans h).map _)
theorem span_fold : ∀ (ps : List Int) {a b : List Int}, a.Perm b → (ps.foldl spanS a).Perm (ps.foldl spanI b)
  | [], _, _, h => h
  | p :: ps, _, _, h => span_fold ps (span_step h p)
theorem span_len (ps : List Int) : (ps.foldl spanS [0]).length = (ps.foldl spanI [0]).length := (span_fold ps (List.Perm.refl _)).length_eq
def Small (l : List Int) : Prop := ∀ x ∈ l, 0 ≤ x ∧ x < 64
theorem xorI_small {a b : Int} (ha : 0 ≤ a ∧ a < 64) (hb : 0 ≤ b ∧ b < 64) : 0 ≤ xorI a b ∧ xorI a b < 64 := by
  unfold xorI
  have := Nat.xor_lt_two_pow (x := a.toNat) (y := b.toNat) (n := 6) (by omega) (by omega)
  omega
theorem xorI_bits {a b : Int} (ha : 0 ≤ a ∧ a < 64) (hb : 0 ≤ b ∧ b < 64) : bits .xor .i64 a b = xorI a b := by
  have := i64_xor a.toNat b.toNat (by omega) (by omega)
  rw [Int.toNat_of_nonneg ha.1, Int.toNat_of_nonneg hb.1] at this
  exact this
theorem small_app {l m : List Int} (h1 : Small l) (h2 : Small m) : Small (l ++ m) := fun x hx => by
  rcases List.mem_append.1 hx with h | h
  · exact h1 x h
  · exact h2 x h
theorem small_map {l : List Int} {p : Int} (h1 : Small l) (hp : 0 ≤ p ∧ p < 64) : Small (l.map fun x => xorI x p) := fun x hx => by
  obtain ⟨y, hy, rfl⟩ := List.mem_map.1 hx
  exact xorI_small (h1 y hy) hp
theorem small_take {l : List Int} (h : Small l) (n : Nat) : Small (l.take n) := fun x hx => h x (List.mem_of_mem_take hx)
theorem small_S {l : List Int} {p : Int} (h1 : Small l) (hp : 0 ≤ p ∧ p < 64) : Small (spanS l p) := by
  unfold spanS; split
  · exact h1
  · exact small_app h1 (small_map (fun x hx => h1 x (List.mem_reverse.1 hx)) hp)
theorem small_I {l : List Int} {p : Int} (h1 : Small l) (hp : 0 ≤ p ∧ p < 64) : Small (spanI l p) := by
  unfold spanI; split
  · exact h1
  · exact small_app h1 (small_map h1 hp)
theorem len_S (l : List Int) (p : Int) : (spanS l p).length ≤ 2 * l.length := by unfold spanS; split <;> (try simp) <;> omega
theorem len_I (l : List Int) (p : Int) : (spanI l p).length ≤ 2 * l.length := by unfold spanI; split <;> (try simp) <;> omega
theorem foldl_snoc {α : Type} (f : α → Int → α) (a : α) (l : List Int) (k : Nat) (h : k < l.length) : (l.take (k + 1)).foldl f a = f ((l.take k).foldl f a) l[k]! := by
  rw [take_snoc h, List.foldl_append]; rfl
theorem rev_next (L : List Int) (f : Int → Int) (u : Nat) (hu : u < L.length) : (L.reverse.take (L.length - u)).map f = (L.reverse.take (L.length - (u + 1))).map f ++ [f L[u]!] := by
  rw [show L.length - u = (L.length - (u + 1)) + 1 from by omega, take_snoc (by simp; omega), List.map_append]
  have e : L.length - 1 - (L.length - (u + 1)) = u := by omega
  have h2 : L.length - (u + 1) < L.reverse.length := by simp; omega
  have h3 : L.reverse[L.length - (u + 1)]! = L[u]! := by
    rw [getElem!_pos L.reverse _ h2, getElem!_pos L u hu]
    simp [List.getElem_reverse, e]
  rw [h3]; rfl
theorem pow_le12 {k : Nat} (h : k ≤ 12) : 2 ^ k ≤ 4096 := Nat.pow_le_pow_right (by decide) h
end Go.KD
namespace Go.Proofs.Ytmapnpgjbahabaa
open Go.RowKit Go.KD
attribute [local go_sem] later_cell later_frozen
set_option maxHeartbeats 4000000 in
theorem specSpanOfPulls_c (v : Value) (m : Wk) (w : World) (hm : WkAt w v m) : Calls Try.prog 22 #[v] w fun e w' =>
    e = .returned (.tuple #[.int .i64 (pSpan m).1, .bool (pSpan m).2]) ∧ Below w.heap.size w w' := by
  have hM := hm
  obtain ⟨⟨ad, cd, ak, ck, rfl, hd, hk'⟩, nd, nk⟩ := hM
  obtain ⟨i0, ji, jz0, jz1, jz2⟩ := info_parts infoI
  obtain ⟨s, gs, ps⟩ := m
  dsimp only at *
  cases b1 : worksB ⟨s, gs, ps⟩
  · have HP : Hid (#[Value.int .i64 0, Value.bool false] = #[.int .i64 (pSpan ⟨s, gs, ps⟩).1, .bool (pSpan ⟨s, gs, ps⟩).2]) := by show _ = _; simp [pSpan, b1]
    go_enter Try.func22, Try.ntmps22
    go_wp2_with (go_at_call 37; refine (l8Works_c _ ⟨s, gs, ps⟩ _ (hm.later (by (repeat (first | exact Below.refl _ _ | apply Below.drew | apply below_drewN | (refine Below.setCell ?_ (by first | omega | (simp; done) | (simp; omega) | (dsimp only; omega)) _) | (refine Below.alloc ?_ (by first | omega | (simp; done) | (simp; omega) | (dsimp only; omega)) _)))))).mono ?_; rintro e w1 ⟨rfl, hb1⟩)
    go_ret2
    exact ⟨ret_tup2 HP.out, below_then (by (repeat (first | exact Below.refl _ _ | apply Below.drew | apply below_drewN | (refine Below.setCell ?_ (by first | omega | (simp; done) | (simp; omega) | (dsimp only; omega)) _) | (refine Below.alloc ?_ (by first | omega | (simp; done) | (simp; omega) | (dsimp only; omega)) _)))) hb1⟩
  · have ok := worksB_true.1 b1
    have hs12 := ok.s2
    have hnp : Hid ((ps.length : Int) = s) := ok.np
    have hnp' : ps.length ≤ 12 := by have h1 : (ps.length : Int) = s := ok.np; have h2 : s ≤ 12 := ok.s2; omega
    have HP : Hid (#[Value.int .i64 (ps.foldl spanI [0]).length, Value.bool true] = #[.int .i64 (pSpan ⟨s, gs, ps⟩).1, .bool (pSpan ⟨s, gs, ps⟩).2]) := by show _ = _; simp [pSpan, b1]
    have hpl : Hid (∀ k, k < ps.length → 0 ≤ ps[k]! ∧ ps[k]! < 64) := fun k hk => by have : setB ps[k]! = true := ok.pl k hk; rw [setB_true] at this; omega
    clear ok
    simp only at hs12
    go_enter Try.func22, Try.ntmps22
    go_wp2_with (go_at_call 37; refine (l8Works_c _ ⟨s, gs, ps⟩ _ (hm.later (by (repeat (first | exact Below.refl _ _ | apply Below.drew | apply below_drewN | (refine Below.setCell ?_ (by first | omega | (simp; done) | (simp; omega) | (dsimp only; omega)) _) | (refine Below.alloc ?_ (by first | omega | (simp; done) | (simp; omega) | (dsimp only; omega)) _)))))).mono ?_; rintro e w1 ⟨rfl, hb1⟩; obtain ⟨hc1, hf1, hz1⟩ := bcell3 hb1; have HB1 : Hid (Below w.heap.size w w1) := below_then (by (repeat (first | exact Below.refl _ _ | apply Below.drew | apply below_drewN | (refine Below.setCell ?_ (by first | omega | (simp; done) | (simp; omega) | (dsimp only; omega)) _) | (refine Below.alloc ?_ (by first | omega | (simp; done) | (simp; omega) | (dsimp only; omega)) _)))) hb1)
    simp only [World.size_alloc] at hz1
    have hz3 : w.heap.size < w1.heap.size := by omega
    have q0 : w1.cell? ⟨w.heap.size, 0, none⟩ = some (.int .i64 s) := by simp [*, go_sem]
    have q2 : w1.cell? ⟨w.heap.size, 2, none⟩ = some (.slice ak ps.length ck) := by simp [*, go_sem]
    clear hc1 hf1 hb1
    go_loopw [4, 5, 6] (fun v i _ wr => ∃ k : Nat, k ≤ ps.length ∧ i = .int .i64 k ∧ Below w1.heap.size w1 wr ∧ Hid (wr.ownsRow w1.heap.size 3 1 v ((ps.take k).foldl spanS [0]).length (ints ((ps.take k).foldl spanS [0])) ∧ Small ((ps.take k).foldl spanS [0]) ∧ ((ps.take k).foldl spanS [0]).length ≤ 2 ^ k)) (fun _ i _ _ => ps.length - (intOf i).toNat)
    case atStart => exact ⟨0, Nat.zero_le _, rfl, (Below.refl _ _).alloc (Nat.le_refl _) _, World.ownsRow_lit _ _ _ (Nat.le_refl _) (by unfold maxLen; omega) (by rfl), fun x hx => by simp at hx; omega, by simp⟩
    case round =>
      obtain ⟨wo, rfl⟩ : ∃ wo : World, wo = wr := ⟨_, rfl⟩
      obtain ⟨k, hk, rfl, hb, HS⟩ := hrel
      have hz := hb.size
      have r0 : wo.cell? ⟨w.heap.size, 0, none⟩ = some (.int .i64 s) := (hb.cell (p := ⟨w.heap.size, 0, none⟩) hz3).trans q0
      have r2 : wo.cell? ⟨w.heap.size, 2, none⟩ = some (.slice ak ps.length ck) := (hb.cell (p := ⟨w.heap.size, 2, none⟩) hz3).trans q2
      have HB : Hid (Below w.heap.size w wo) := below_then HB1.out hb
      by_cases hlt : k < ps.length
      · have hks : (k : Int) < s := by have := hnp.out; omega
        obtain ⟨b, off, p, rfl, HX, hbs, e0⟩ := (hk'.later HB.out).at k hlt
        have hp := hpl.out k hlt
        rw [HX.out] at hp
        have HF := Lib.hid (foldl_snoc spanS [0] ps k hlt)
        have h2k := pow_le12 (k := k) (by omega)
        have h2k1 := pow_le12 (k := k + 1) (by omega)
        obtain ⟨L, hL⟩ : ∃ L, L = (ps.take k).foldl spanS [0] := ⟨_, rfl⟩
        rw [← hL] at HS
        have HL := Lib.hid hL; clear hL
        have hlen := HS.out.2.2
        obtain ⟨aL, cL, rfl, hmL, hIL⟩ := (Own.of HS.out.1).ic
        have hpos : Hid (0 < 2 ^ k) := Nat.two_pow_pos k
        cases hc : hasI L p
        · have HC := Lib.hid hc
          have HFF : Hid ((ps.take (k + 1)).foldl spanS [0] = L ++ L.reverse.map fun x => xorI x p) := by
            have := HF.out; rw [← HL.out, HX.out] at this
            show _ = _
            rw [this]; simp [spanS, hc]
          have hL4 : L.length ≤ 4096 := by omega
          clear h2k h2k1
          go_wp2_with (go_at_call 51; refine (l1Has_c _ _ _ L _ _ rfl hIL (by omega)).mono ?_; rintro e w2 ⟨rfl, rfl⟩)
          go_loopw [4, 6] (fun v c wr => ∃ t : Nat, t ≤ L.length ∧ c = .int .i64 ((t : Int) - 1) ∧ Below w1.heap.size w1 wr ∧ wo.heap.size ≤ wr.heap.size ∧ Hid (wr.ownsRow w1.heap.size 3 1 v (L ++ (L.reverse.take (L.length - t)).map fun x => xorI x p).length (ints (L ++ (L.reverse.take (L.length - t)).map fun x => xorI x p)))) (fun _ c _ => (intOf c + 1).toNat)
          case atStart => exact ⟨L.length, Nat.le_refl _, rfl, hb, Nat.le_refl _, by have := HS.out.1; simpa [Hid] using this⟩
          case round =>
            obtain ⟨t, ht, rfl, hb2, hzx, HO⟩ := hrel
            rcases Nat.eq_zero_or_pos t with h0 | h0
            · subst h0
              go_wp2
              go_roundw
              case rel => exact ⟨k + 1, by omega, by go_num, hb2, by
                rw [HFF.out]
                have := HO.out
                rw [Nat.sub_zero, List.take_of_length_le (by simp)] at this
                exact ⟨this, small_app HS.out.2.1 (small_map (fun x hx => HS.out.2.1 x (List.mem_reverse.1 hx)) hp), by have := hpos.out; rw [List.length_append, List.length_map, List.length_reverse, Nat.pow_succ]; omega⟩⟩
              case measure => simp [intOf]; omega
            · obtain ⟨u, rfl⟩ : ∃ u, t = u + 1 := ⟨t - 1, by omega⟩
              have hu : u < L.length := by omega
              obtain ⟨M, hM⟩ : ∃ M, M = L ++ (L.reverse.take (L.length - (u + 1))).map fun x => xorI x p := ⟨_, rfl⟩
              rw [← hM] at HO
              have HM := Lib.hid hM
              have hML : M.length ≤ 8192 := by rw [hM]; simp; omega
              have hMu : M[u]! = L[u]! := by rw [hM, getElem!_pos _ u (by simp; omega), getElem!_pos _ u hu, List.getElem_append_left hu]
              have hMn : u < M.length := by rw [hM]; simp; omega
              clear hM
              obtain ⟨aM, cM, rfl, hmM, hIM⟩ := (Own.of HO.out).ic
              obtain ⟨bM, offM, x, rfl, HXM, hbsM, eM⟩ := hIM.at u hMn
              have hx : 0 ≤ x ∧ x < 64 := by
                rw [← HXM.out, hMu]
                exact HS.out.2.1 _ (by rw [getElem!_pos L u hu]; exact List.getElem_mem hu)
              have ex : bits .xor .i64 x p = xorI x p := xorI_bits hx hp
              have HN : Hid (L ++ (L.reverse.take (L.length - u)).map (fun x => xorI x p) = M ++ [xorI x p]) := by
                show _ = _
                rw [HM.out, rev_next L _ u hu, ← hMu, HXM.out, List.append_assoc]
              have t0 : wr.cell? ⟨w.heap.size, 2, none⟩ = some (.slice (some ⟨b, off, none⟩) ps.length ck) := (hb2.cell (p := ⟨w.heap.size, 2, none⟩) hz3).trans q2
              have HBX : Hid (Below w.heap.size w wr) := below_then HB1.out hb2
              obtain ⟨b3, off3, p3, hb3, HX3, hbs3, t1⟩ := (hk'.later HBX.out).at k hlt
              obtain rfl : p3 = p := HX3.out.symm.trans HX.out
              cases hb3
              have hz2 := hb2.size
              clear hMu hx
              go_wp2
              go_region_law ((refine step_append_lies _ (by rfl) _ _ _ (by rfl) w1.heap.size 3 i0 (.int .i64 0) 1 8 Try.underlying23 ji jz0 jz1 jz2 rfl (by decide) _ _ _ (by rfl) ((HO.out.alloc _).drew) ⟨wr.heap.size, 0, none⟩ 1 1 [.int .i64 (xorI x p3)] (by rfl) (by rfl) (fun j u hu => cell_one_new _ _ _ j u hu) (by simp [Value.oneCell']) (by omega) (by unfold maxLen; omega) (by omega) (by simp; omega) (wr.heap.size + 1) (by simp) ?_; intro g' cap' w3 hown' hgrow hat hlt3))
              all_goals
                go_wp2
                go_roundw
                case rel => exact ⟨u, by omega, by first | rfl | go_num, ((hb2.alloc hz2 _).drew).grown hgrow (by simp; omega) (fun g hg => own_block_lo HO.out hg), by have := hgrow.size; simp at this; omega, by rw [HN.out, ints_snoc, List.length_append]; exact hown'⟩
                case measure => simp [intOf]
        · have HFF : Hid ((ps.take (k + 1)).foldl spanS [0] = L) := by
            have := HF.out; rw [← HL.out, HX.out] at this
            show _ = _
            rw [this]; simp [spanS, hc]
          have hL4 : L.length ≤ 4096 := by omega
          clear h2k h2k1
          go_wp2_with (go_at_call 51; refine (l1Has_c _ _ _ L _ _ rfl hIL (by omega)).mono ?_; rintro e w2 ⟨rfl, rfl⟩)
          go_roundw
          case rel => exact ⟨k + 1, by omega, by go_num, hb, by rw [HFF.out]; exact ⟨HS.out.1, HS.out.2.1, by have := hpos.out; rw [Nat.pow_succ]; omega⟩⟩
          case measure => simp [intOf]; omega
      · have hks : ¬ (k : Int) < s := by have := hnp.out; omega
        obtain rfl : k = ps.length := by omega
        obtain ⟨L, hL⟩ : ∃ L, L = (ps.take ps.length).foldl spanS [0] := ⟨_, rfl⟩
        rw [← hL] at HS
        have HL := Lib.hid hL; clear hL
        obtain ⟨aL, cL, rfl, hmL, hIL⟩ := (Own.of HS.out.1).ic
        go_wp2
        go_ret2
        exact ⟨ret_tup2 (by rw [← HP.out, ← span_len, ← (List.take_of_length_le (Nat.le_refl _) : ps.take ps.length = ps), ← HL.out]; rfl), HB.out⟩
set_option maxHeartbeats 4000000 in
theorem implSpanOfPulls_c (v : Value) (m : Wk) (w : World) (hm : WkAt w v m) : Calls Try.prog 23 #[v] w fun e w' =>
    e = .returned (.tuple #[.int .i64 (pSpan m).1, .bool (pSpan m).2]) ∧ Below w.heap.size w w' := by
  have hM := hm
  obtain ⟨⟨ad, cd, ak, ck, rfl, hd, hk'⟩, nd, nk⟩ := hM
  obtain ⟨i0, ji, jz0, jz1, jz2⟩ := info_parts infoI
  obtain ⟨s, gs, ps⟩ := m
  dsimp only at *
  cases b1 : worksB ⟨s, gs, ps⟩
  · have HP : Hid (#[Value.int .i64 0, Value.bool false] = #[.int .i64 (pSpan ⟨s, gs, ps⟩).1, .bool (pSpan ⟨s, gs, ps⟩).2]) := by show _ = _; simp [pSpan, b1]
    go_enter Try.func23, Try.ntmps23
    go_wp2_with (go_at_call 13; refine (isWorks_c _ ⟨s, gs, ps⟩ _ (hm.later (by (repeat (first | exact Below.refl _ _ | apply Below.drew | apply below_drewN | (refine Below.setCell ?_ (by first | omega | (simp; done) | (simp; omega) | (dsimp only; omega)) _) | (refine Below.alloc ?_ (by first | omega | (simp; done) | (simp; omega) | (dsimp only; omega)) _)))))).mono ?_; rintro e w1 ⟨rfl, hb1⟩)
    go_ret2
    exact ⟨ret_tup2 HP.out, below_then (by (repeat (first | exact Below.refl _ _ | apply Below.drew | apply below_drewN | (refine Below.setCell ?_ (by first | omega | (simp; done) | (simp; omega) | (dsimp only; omega)) _) | (refine Below.alloc ?_ (by first | omega | (simp; done) | (simp; omega) | (dsimp only; omega)) _)))) hb1⟩
  · have ok := worksB_true.1 b1
    have hs12 := ok.s2
    have hnp : Hid ((ps.length : Int) = s) := ok.np
    have hnp' : ps.length ≤ 12 := by have h1 : (ps.length : Int) = s := ok.np; have h2 : s ≤ 12 := ok.s2; omega
    have HP : Hid (#[Value.int .i64 (ps.foldl spanI [0]).length, Value.bool true] = #[.int .i64 (pSpan ⟨s, gs, ps⟩).1, .bool (pSpan ⟨s, gs, ps⟩).2]) := by show _ = _; simp [pSpan, b1]
    have hpl : Hid (∀ k, k < ps.length → 0 ≤ ps[k]! ∧ ps[k]! < 64) := fun k hk => by have : setB ps[k]! = true := ok.pl k hk; rw [setB_true] at this; omega
    clear ok
    simp only at hs12
    go_enter Try.func23, Try.ntmps23
    go_wp2_with fail
    refine (isWorks_c _ ⟨s, gs, ps⟩ _ (hm.later (by (repeat (first | exact Below.refl _ _ | apply Below.drew | apply below_drewN | (refine Below.setCell ?_ (by first | omega | (simp; done) | (simp; omega) | (dsimp only; omega)) _) | (refine Below.alloc ?_ (by first | omega | (simp; done) | (simp; omega) | (dsimp only; omega)) _)))))).mono ?_
    rintro e w1 ⟨rfl, hb1⟩
    have HB1 : Hid (Below w.heap.size w w1) := below_then (by (repeat (first | exact Below.refl _ _ | apply Below.drew | apply below_drewN | (refine Below.setCell ?_ (by first | omega | (simp; done) | (simp; omega) | (dsimp only; omega)) _) | (refine Below.alloc ?_ (by first | omega | (simp; done) | (simp; omega) | (dsimp only; omega)) _)))) hb1
    have hz1 := hb1.size
    simp only [World.size_alloc] at hz1
    have hz3 : w.heap.size < w1.heap.size := by omega
    have q0 : w1.cell? ⟨w.heap.size, 0, none⟩ = some (.int .i64 s) := by rw [hb1.cell (p := ⟨w.heap.size, 0, none⟩) (by simp)]; simp [go_sem]
    have q2 : w1.cell? ⟨w.heap.size, 2, none⟩ = some (.slice ak ps.length ck) := by rw [hb1.cell (p := ⟨w.heap.size, 2, none⟩) (by simp)]; simp [go_sem]
    rw [b1]
    clear hb1
    go_wp2
    go_loopw [4, 16] (fun v i wr => ∃ k : Nat, k ≤ ps.length ∧ i = .int .i64 k ∧ Below w1.heap.size w1 wr ∧ Hid (wr.ownsRow w1.heap.size 3 1 v ((ps.take k).foldl spanI [0]).length (ints ((ps.take k).foldl spanI [0])) ∧ Small ((ps.take k).foldl spanI [0]) ∧ ((ps.take k).foldl spanI [0]).length ≤ 2 ^ k)) (fun _ i _ => ps.length - (intOf i).toNat)
    case atStart => exact ⟨0, Nat.zero_le _, rfl, (Below.refl _ _).alloc (Nat.le_refl _) _, World.ownsRow_lit _ _ _ (Nat.le_refl _) (by unfold maxLen; omega) (by rfl), fun x hx => by simp at hx; omega, by simp⟩
    case round =>
      obtain ⟨wo, rfl⟩ : ∃ wo : World, wo = wr := ⟨_, rfl⟩
      obtain ⟨k, hk, rfl, hb, HS⟩ := hrel
      have hz := hb.size
      have r0 : wo.cell? ⟨w.heap.size, 0, none⟩ = some (.int .i64 s) := (hb.cell (p := ⟨w.heap.size, 0, none⟩) hz3).trans q0
      have r2 : wo.cell? ⟨w.heap.size, 2, none⟩ = some (.slice ak ps.length ck) := (hb.cell (p := ⟨w.heap.size, 2, none⟩) hz3).trans q2
      have HB : Hid (Below w.heap.size w wo) := below_then HB1.out hb
      by_cases hlt : k < ps.length
      · have hks : (k : Int) < s := by have := hnp.out; omega
        obtain ⟨b, off, p, rfl, HX, hbs, e0⟩ := (hk'.later HB.out).at k hlt
        have hp := hpl.out k hlt
        rw [HX.out] at hp
        have HF := Lib.hid (foldl_snoc spanI [0] ps k hlt)
        have h2k := pow_le12 (k := k) (by omega)
        have h2k1 := pow_le12 (k := k + 1) (by omega)
        obtain ⟨L, hL⟩ : ∃ L, L = (ps.take k).foldl spanI [0] := ⟨_, rfl⟩
        rw [← hL] at HS
        have HL := Lib.hid hL; clear hL
        have hlen := HS.out.2.2
        obtain ⟨aL, cL, rfl, hmL, hIL⟩ := (Own.of HS.out.1).ic
        have hpos : Hid (0 < 2 ^ k) := Nat.two_pow_pos k
        cases hc : hasI L p
        · have HC := Lib.hid hc
          have HFF : Hid ((ps.take (k + 1)).foldl spanI [0] = L ++ L.map fun x => xorI x p) := by
            have := HF.out; rw [← HL.out, HX.out] at this
            show _ = _
            rw [this]; simp [spanI, hc]
          have hL4 : L.length ≤ 4096 := by omega
          clear h2k h2k1
          go_wp2_with (first | (go_at_call 52; refine (contains_c _ _ _ L _ _ rfl hIL (by omega)).mono ?_; rintro e w2 ⟨rfl, rfl⟩) | (go_at_call 53; refine (clone_c _ _ _ L _ rfl hIL (by omega)).mono ?_; rintro e w5 ⟨vc, rfl, hoc, hbc⟩; obtain ⟨ac, cc, rfl, hmc, hIc⟩ := (Own.of hoc).ic; have HC5 := Lib.hid (Own.of hoc); clear hoc; have HO5 := Lib.hid ((Own.of HS.out.1).later hbc (Nat.le_refl _)); have HBC : Hid (Below w1.heap.size w1 w5) := hb.trans (hbc.mono hz)))
          have hzc := hbc.size
          go_loopw [4, 26] (fun v c wr => ∃ u : Nat, u ≤ L.length ∧ c = .int .i64 (u : Int) ∧ Below w1.heap.size w1 wr ∧ w5.heap.size ≤ wr.heap.size ∧ Hid (wr.ownsRow w1.heap.size 3 1 v (L ++ (L.take u).map fun x => xorI x p).length (ints (L ++ (L.take u).map fun x => xorI x p)) ∧ Own wo.heap.size w5.heap.size wr 3 1 (.slice ac L.length cc) L.length (ints L) ∧ (∀ g, v.ownBlock = some g → g < wo.heap.size ∨ w5.heap.size ≤ g))) (fun _ c _ => L.length - (intOf c).toNat)
          case atStart => exact ⟨0, Nat.zero_le _, rfl, HBC.out, Nat.le_refl _, by
            refine ⟨by simpa using HO5.out.row, HC5.out, fun g hg => .inl (HO5.out.top g hg)⟩⟩
          case round =>
            obtain ⟨u, hu', rfl, hb2, hzx, HOO⟩ := hrel
            have HO := Lib.hid HOO.out.1
            by_cases hu : u < L.length
            · obtain ⟨M, hM⟩ : ∃ M, M = L ++ (L.take u).map fun x => xorI x p := ⟨_, rfl⟩
              rw [← hM] at HO
              have HM := Lib.hid hM
              have hML : M.length ≤ 8192 := by rw [hM]; simp; omega
              clear hM
              obtain ⟨aM, cM, rfl⟩ := own_slice HO.out
              have hICc : IC wr ac L := by obtain ⟨a1, c1, h1, _, h2⟩ := HOO.out.2.1.ic; cases h1; exact h2
              obtain ⟨bM, offM, x, rfl, HXM, hbsM, eM⟩ := hICc.at u hu
              have hx : 0 ≤ x ∧ x < 64 := by
                rw [← HXM.out]
                exact HS.out.2.1 _ (by rw [getElem!_pos L u hu]; exact List.getElem_mem hu)
              have ex : bits .xor .i64 x p = xorI x p := xorI_bits hx hp
              have HN : Hid (L ++ (L.take (u + 1)).map (fun x => xorI x p) = M ++ [xorI x p]) := by
                show _ = _
                rw [HM.out, take_snoc hu, List.map_append, ← List.append_assoc, HXM.out]
                rfl
              have hz2 := hb2.size
              clear hx
              go_wp2_with (at_builtin; refine wpList_append_lies _ rfl _ _ 23 rfl w1.heap.size 3 i0 (.int .i64 0) 1 8 Try.underlying23 ji jz0 jz1 jz2 rfl (by decide) _ _ _ rfl (HO.out.alloc _) ⟨wr.heap.size, 0, none⟩ 1 1 [.int .i64 (xorI x p)] rfl rfl ?_ ?_ (by omega) ?_ ?_ ?_ (wr.heap.size + 1) ?_ ?_; (exact cell_one_new _ _ _); (simp [Value.oneCell']); (unfold maxLen; omega); omega; (simp; omega); (simp); intro g' cap' w3 hown' hgrow hat hlt3)
              go_roundw
              case rel => exact ⟨u + 1, by omega, by go_num, (hb2.alloc hz2 _).grown hgrow (by simp; omega) (fun g hg => own_block_lo HO.out hg), by have := hgrow.size; simp at this; omega, by
                refine ⟨by rw [HN.out, ints_snoc, List.length_append]; exact hown', ?_, ?_⟩
                · exact ((HOO.out.2.1).later ((Below.refl wr.heap.size wr).alloc (Nat.le_refl _) _) hzx).grown hgrow (fun g hg => HOO.out.2.2 g hg)
                · intro g hg; cases hg; rcases hat with h | h
                  · exact HOO.out.2.2 _ h
                  · right; show _ ≤ g'; omega⟩
              case measure => simp [intOf]; omega
            · obtain rfl : u = L.length := by omega
              go_wp2
              go_roundw
              case rel => exact ⟨k + 1, by omega, by go_num, hb2, by
                rw [HFF.out]
                have := HO.out
                rw [List.take_of_length_le (Nat.le_refl _)] at this
                exact ⟨this, small_app HS.out.2.1 (small_map HS.out.2.1 hp), by have := hpos.out; rw [List.length_append, List.length_map, Nat.pow_succ]; omega⟩⟩
              case measure => simp [intOf]; omega
        · have HFF : Hid ((ps.take (k + 1)).foldl spanI [0] = L) := by
            have := HF.out; rw [← HL.out, HX.out] at this
            show _ = _
            rw [this]; simp [spanI, hc]
          have hL4 : L.length ≤ 4096 := by omega
          clear h2k h2k1
          go_wp2_with (go_at_call 52; refine (contains_c _ _ _ L _ _ rfl hIL (by omega)).mono ?_; rintro e w2 ⟨rfl, rfl⟩)
          go_roundw
          case rel => exact ⟨k + 1, by omega, by go_num, hb, by rw [HFF.out]; exact ⟨HS.out.1, HS.out.2.1, by have := hpos.out; rw [Nat.pow_succ]; omega⟩⟩
          case measure => simp [intOf]; omega
      · obtain rfl : k = ps.length := by omega
        obtain ⟨L, hL⟩ : ∃ L, L = (ps.take ps.length).foldl spanI [0] := ⟨_, rfl⟩
        rw [← hL] at HS
        have HL := Lib.hid hL; clear hL
        obtain ⟨aL, cL, rfl, hmL, hIL⟩ := (Own.of HS.out.1).ic
        go_wp2
        go_ret2
        exact ⟨ret_tup2 (by rw [← HP.out, ← (List.take_of_length_le (Nat.le_refl _) : ps.take ps.length = ps), ← HL.out]; rfl), HB.out⟩
end Go.Proofs.Ytmapnpgjbahabaa
