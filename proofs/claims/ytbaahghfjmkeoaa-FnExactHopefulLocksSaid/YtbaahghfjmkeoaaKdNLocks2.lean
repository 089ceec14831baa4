/- Contract of nextLocks. -/
import Derived.Test.YtbaahghfjmkeoaaKdNLocks
import Derived.Deep.DeepCutAuto
set_option linter.unusedVariables false
set_option linter.unusedSimpArgs false
namespace Go.KD
open Go.RowKit
/-- What the closure of nextLocks reads. -/
structure NLS (W : World) (lo gm go gn gv gL : Nat) (ad : Option Addr) (nd cd cL : Nat) (O N : Nat) (LF : List Int) : Prop where
  m : W.cell? ⟨gm, 1, none⟩ = some (.slice ad nd cd)
  o : W.cell? ⟨go, 0, none⟩ = some (.int .i64 O)
  n : W.cell? ⟨gn, 0, none⟩ = some (.int .i64 N)
  v : W.cell? ⟨gv, 0, none⟩ = some (.slice (some ⟨gL, 0, none⟩) 6 cL)
  L : IC W (some ⟨gL, 0, none⟩) LF
  sm : gm < W.heap.size
  so : go < W.heap.size
  sn : gn < W.heap.size
  sv : gv < W.heap.size
  sL : gL < W.heap.size
theorem NLS.later {W W' : World} {lo gm go gn gv gL nd cd cL O N : Nat} {ad : Option Addr} {LF : List Int} (h : NLS W lo gm go gn gv gL ad nd cd cL O N LF) (hb : Below W.heap.size W W') : NLS W' lo gm go gn gv gL ad nd cd cL O N LF := by
  have := hb.size
  exact ⟨(hb.cell (p := ⟨gm, 1, none⟩) h.sm).trans h.m, (hb.cell (p := ⟨go, 0, none⟩) h.so).trans h.o, (hb.cell (p := ⟨gn, 0, none⟩) h.sn).trans h.n, (hb.cell (p := ⟨gv, 0, none⟩) h.sv).trans h.v, h.L.later hb, Nat.lt_of_lt_of_le h.sm this, Nat.lt_of_lt_of_le h.so this, Nat.lt_of_lt_of_le h.sn this, Nat.lt_of_lt_of_le h.sv this, Nat.lt_of_lt_of_le h.sL this⟩
/-- Blocks at or above `q` may change. -/
theorem NLS.below {W W' : World} {lo q gm go gn gv gL nd cd cL O N : Nat} {ad : Option Addr} {LF : List Int} (h : NLS W lo gm go gn gv gL ad nd cd cL O N LF) (hb : Below q W W') (h1 : gm < q) (h2 : go < q) (h3 : gn < q) (h4 : gv < q) (h5 : gL < q) : NLS W' lo gm go gn gv gL ad nd cd cL O N LF := by
  have := hb.size
  refine ⟨(hb.cell (p := ⟨gm, 1, none⟩) h1).trans h.m, (hb.cell (p := ⟨go, 0, none⟩) h2).trans h.o, (hb.cell (p := ⟨gn, 0, none⟩) h3).trans h.n, (hb.cell (p := ⟨gv, 0, none⟩) h4).trans h.v, fun k hk => ?_, Nat.lt_of_lt_of_le h.sm this, Nat.lt_of_lt_of_le h.so this, Nat.lt_of_lt_of_le h.sn this, Nat.lt_of_lt_of_le h.sv this, Nat.lt_of_lt_of_le h.sL this⟩
  obtain ⟨b, off, ha, hbs, hc⟩ := h.L k hk
  cases ha
  exact ⟨gL, 0, rfl, Nat.lt_of_lt_of_le h.sL this, (hb.cell (p := ⟨gL, 0 + k, none⟩) h5).trans hc⟩
theorem ic_set {W : World} {g off : Nat} {L : List Int} {a : Addr} (h : IC W (some ⟨g, off, none⟩) L) (hne : a.block ≠ g) (u : Value) : IC (W.setCell a u) (some ⟨g, off, none⟩) L := by
  intro k hk
  obtain ⟨b, o, ha, hbs, hc⟩ := h k hk
  cases ha
  exact ⟨g, off, rfl, by simpa using hbs, by rw [World.cell?_setCell_other _ _ _ _ (fun e => hne (by first | exact congrArg Addr.block e | exact (congrArg Addr.block e).symm))]; exact hc⟩
theorem bits_lt30 {O : Nat} (h : ∀ i, O.testBit i = true → i < 30) : O < 1073741824 := by
  rw [show 1073741824 = 2 ^ 30 from rfl]
  refine Nat.lt_pow_two_of_testBit O fun i hi => ?_
  cases hb : O.testBit i
  · rfl
  · have := h i hb; omega
end Go.KD
namespace Go.Proofs.Ytbaahghfjmkeoaa
open Go.RowKit Go.KD
attribute [local go_sem] later_cell later_frozen
set_option maxRecDepth 100000 in
set_option maxHeartbeats 8000000 in
theorem nextLocks_c (v : Value) (m : Mz) (O : Nat) (L : List Int) (w : World) (hm : MzAt w v m) (ok : MzOk m) (hop : OpOk m O L) : Calls Try.prog 63 #[v, .int .i64 O] w fun e w' =>
    ∃ u, e = .returned u ∧ Own w.heap.size w'.heap.size w' 3 1 u (nextL m O L).length (ints (nextL m O L)) ∧ Below w.heap.size w w' := by
  have hM := hm
  obtain ⟨⟨ad, cd, ak, ck, rfl, hd, hk'⟩, nd, nk⟩ := hM
  have hng : m.doors.length ≤ 30 := ok.nd
  have hO : O < 1073741824 := bits_lt30 fun i hi => Nat.lt_of_lt_of_le (hop.lt i hi) hng
  have hop2 := op_ofMem hop
  have HNL := Lib.hid (nextL_perm hop)
  rw [← HNL.out]
  have HLT := Lib.hid hop2.lt
  have HOP := Lib.hid hop2
  have HNE := Lib.hid (next_keep m O (mem O))
  have HNIN := Lib.hid ((nearN_in ok O).lt ok)
  have OK := Lib.hid ok
  have HLK := Lib.hid (locksK_len m.doors m.doors.length)
  clear ok hop hop2 HNL
  go_enter Try.func63, Try.ntmps63
  go_upto_region 1 with fail
  go_cut [5, 6] (fun s5 s6 wx => ∃ gn gv gL cL : Nat, s5 = .pointer (some ⟨gn, 0, none⟩) ∧ s6 = .pointer (some ⟨gv, 0, none⟩) ∧ Hid (NLS wx w.heap.size w.heap.size (w.heap.size + 1) gn gv gL ad m.doors.length cd cL O (nearN m O) (leftL m (nearN m O) (mem O)) ∧ Below w.heap.size w wx ∧ wx.cell? ⟨w.heap.size, 0, none⟩ = some (.int .i64 m.size) ∧ wx.cell? ⟨w.heap.size, 2, none⟩ = some (.slice ak m.keys.length ck)))
  case first =>
    obtain ⟨wo, hwo⟩ : ∃ wo, wo = ((w.alloc (.cells #[.int .i64 m.size, .slice ad m.doors.length cd, .slice ak m.keys.length ck] 29)).alloc (.cells #[.int .i64 O] 3)) := ⟨_, rfl⟩
    have q0 : wo.cell? ⟨w.heap.size, 0, none⟩ = some (.int .i64 m.size) := by rw [hwo]; simp [go_sem]
    have q1 : wo.cell? ⟨w.heap.size, 1, none⟩ = some (.slice ad m.doors.length cd) := by rw [hwo]; simp [go_sem]
    have q2 : wo.cell? ⟨w.heap.size, 2, none⟩ = some (.slice ak m.keys.length ck) := by rw [hwo]; simp [go_sem]
    have q3 : wo.cell? ⟨w.heap.size + 1, 0, none⟩ = some (.int .i64 O) := by rw [hwo]; simp [go_sem]
    have hwz : w.heap.size + 2 ≤ wo.heap.size := by rw [hwo]; simp
    have HB0 : Hid (Below w.heap.size w wo) := by rw [hwo]; exact Below.alloc (Below.alloc (Below.refl _ _) (by omega) _) (by simp) _
    rw [← hwo]
    clear hwo
    have HS : Hid (∀ W, Below (w.heap.size + 2) wo W → W.cell? ⟨w.heap.size, 0, none⟩ = some (.int .i64 m.size) ∧ W.cell? ⟨w.heap.size, 1, none⟩ = some (.slice ad m.doors.length cd) ∧ W.cell? ⟨w.heap.size, 2, none⟩ = some (.slice ak m.keys.length ck) ∧ W.cell? ⟨w.heap.size + 1, 0, none⟩ = some (.int .i64 O)) := fun W hW => ⟨(hW.cell (p := ⟨w.heap.size, 0, none⟩) (by simp)).trans q0, (hW.cell (p := ⟨w.heap.size, 1, none⟩) (by simp)).trans q1, (hW.cell (p := ⟨w.heap.size, 2, none⟩) (by simp)).trans q2, (hW.cell (p := ⟨w.heap.size + 1, 0, none⟩) (by simp)).trans q3⟩
    clear q0 q1 q2 q3
    go_region_held3 (fun W => W.cell? ⟨w.heap.size, 0, none⟩ = some (.int .i64 m.size) ∧ W.cell? ⟨w.heap.size, 1, none⟩ = some (.slice ad m.doors.length cd) ∧ W.cell? ⟨w.heap.size, 2, none⟩ = some (.slice ak m.keys.length ck) ∧ W.cell? ⟨w.heap.size + 1, 0, none⟩ = some (.int .i64 O))
      (first | exact HS.out _ (by repeat (first | exact Below.refl _ _ | exact HB3.out | exact HB2.out | apply Below.drew | apply below_drewN | (refine Below.setCell ?_ (by first | omega | (simp; done) | (simp; omega) | (dsimp only; omega)) _) | (refine Below.alloc ?_ (by first | omega | (simp; done) | (simp; omega) | (dsimp only; omega)) _))))
      (first
        | (go_at_call 95; refine (near_c _ m O _ (hm.later (HB0.out.trans (Below.mono (B := w.heap.size + 2) (by repeat (first | exact Below.refl _ _ | apply Below.drew | apply below_drewN | (refine Below.setCell ?_ (by first | omega | (simp; done) | (simp; omega) | (dsimp only; omega)) _) | (refine Below.alloc ?_ (by first | omega | (simp; done) | (simp; omega) | (dsimp only; omega)) _))) (by omega)))) OK.out hO).mono ?_; rintro e w2 ⟨rfl, hb2⟩; have HB2 : Hid (Below (w.heap.size + 2) wo w2) := Below.trans (by repeat (first | exact Below.refl _ _ | apply Below.drew | apply below_drewN | (refine Below.setCell ?_ (by first | omega | (simp; done) | (simp; omega) | (dsimp only; omega)) _) | (refine Below.alloc ?_ (by first | omega | (simp; done) | (simp; omega) | (dsimp only; omega)) _))) (hb2.mono (by first | omega | (simp; omega))); have hz2 := HB2.out.size; obtain ⟨hc2, hf2, hs2⟩ := bcell3 hb2; (try simp only [World.size_alloc, World.size_drew] at hs2 hc2 hf2); (try have l20 : wo.heap.size < w2.heap.size := by omega); (try have l21 : wo.heap.size + 1 < w2.heap.size := by omega); clear hb2)
        | (go_at_call 97; refine (keysLeft_c _ m O _ (hm.later (HB0.out.trans (Below.mono (B := w.heap.size + 2) (by repeat (first | exact Below.refl _ _ | exact HB2.out | apply Below.drew | apply below_drewN | (refine Below.setCell ?_ (by first | omega | (simp; done) | (simp; omega) | (dsimp only; omega)) _) | (refine Below.alloc ?_ (by first | omega | (simp; done) | (simp; omega) | (dsimp only; omega)) _))) (by omega)))) OK.out hO HLT.out).mono ?_; rintro e w3 ⟨u3, rfl, ho3, hb3⟩; have HB3 : Hid (Below (w.heap.size + 2) wo w3) := Below.trans (by repeat (first | exact Below.refl _ _ | exact HB2.out | apply Below.drew | apply below_drewN | (refine Below.setCell ?_ (by first | omega | (simp; done) | (simp; omega) | (dsimp only; omega)) _) | (refine Below.alloc ?_ (by first | omega | (simp; done) | (simp; omega) | (dsimp only; omega)) _))) (hb3.mono (by first | omega | (simp; omega))); obtain ⟨gL, cL, rfl, -, -⟩ := own_someD ho3 (by omega); obtain ⟨hc3, hf3, hz3⟩ := bcell3 hb3; have hgl := own_block_lo ho3 (g := gL) rfl; have hgh := (Own.of ho3).top gL rfl; have HI3 : Hid (IC w3 (some ⟨gL, 0, none⟩) (leftL m (nearN m O) (mem O))) := ic_of' (Own.of ho3) (by simp); (try simp only [World.size_alloc, World.size_drew] at hz3 hgl hc3 hf3); (try have l30 : wo.heap.size < w3.heap.size := by omega); (try have l31 : wo.heap.size + 1 < w3.heap.size := by omega); (try have l32 : w2.heap.size < w3.heap.size := by omega); (try have l33 : w2.heap.size + 1 < w3.heap.size := by omega); clear hb3 ho3))
    all_goals
      go_wp2_with fail
      go_meet
      case rel =>
        refine ⟨_, _, gL, cL, rfl, rfl, (⟨⟨(HS.out _ (by repeat (first | exact Below.refl _ _ | exact HB3.out | exact HB2.out | apply Below.drew | apply below_drewN | (refine Below.setCell ?_ (by first | omega | (simp; done) | (simp; omega) | (dsimp only; omega)) _) | (refine Below.alloc ?_ (by first | omega | (simp; done) | (simp; omega) | (dsimp only; omega)) _)))).2.1, (HS.out _ (by repeat (first | exact Below.refl _ _ | exact HB3.out | exact HB2.out | apply Below.drew | apply below_drewN | (refine Below.setCell ?_ (by first | omega | (simp; done) | (simp; omega) | (dsimp only; omega)) _) | (refine Below.alloc ?_ (by first | omega | (simp; done) | (simp; omega) | (dsimp only; omega)) _)))).2.2.2, ?_, ?_, ?_, ?_, ?_, ?_, ?_, ?_⟩, HB0.out.trans (Below.mono (B := w.heap.size + 2) (by repeat (first | exact Below.refl _ _ | exact HB3.out | exact HB2.out | apply Below.drew | apply below_drewN | (refine Below.setCell ?_ (by first | omega | (simp; done) | (simp; omega) | (dsimp only; omega)) _) | (refine Below.alloc ?_ (by first | omega | (simp; done) | (simp; omega) | (dsimp only; omega)) _))) (by omega)), (HS.out _ (by repeat (first | exact Below.refl _ _ | exact HB3.out | exact HB2.out | apply Below.drew | apply below_drewN | (refine Below.setCell ?_ (by first | omega | (simp; done) | (simp; omega) | (dsimp only; omega)) _) | (refine Below.alloc ?_ (by first | omega | (simp; done) | (simp; omega) | (dsimp only; omega)) _)))).1, (HS.out _ (by repeat (first | exact Below.refl _ _ | exact HB3.out | exact HB2.out | apply Below.drew | apply below_drewN | (refine Below.setCell ?_ (by first | omega | (simp; done) | (simp; omega) | (dsimp only; omega)) _) | (refine Below.alloc ?_ (by first | omega | (simp; done) | (simp; omega) | (dsimp only; omega)) _)))).2.2.1⟩ : _ ∧ _ ∧ _ ∧ _)⟩
        all_goals first | (simp [go_sem, *]; done) | (simp; omega) | (have := HB3.out.size; simp; omega) | (refine World.cell?_setCell_same' _ _ _ ?_; exact (by repeat (first | (simp [go_sem]; done) | (simp; done) | (rw [hc3]; rotate_left; exact (by first | (simp; done) | (simp; omega) | omega)) | (rw [hc2]; rotate_left; exact (by first | (simp; done) | (simp; omega) | omega)) | (rw [World.cell?_setCell_far]; rotate_left; exact (by first | (simp; done) | (simp; omega) | omega)) | (rw [World.cell?_alloc_lt]; rotate_left; exact (by first | (simp; done) | (simp; omega) | omega))))) | (rw [World.cell?_setCell_far _ _ _ _ (by first | (simp; done) | (simp; omega))]; refine World.cell?_setCell_same' _ _ _ ?_; exact (by repeat (first | (simp [go_sem]; done) | (simp; done) | (rw [hc3]; rotate_left; exact (by first | (simp; done) | (simp; omega) | omega)) | (rw [hc2]; rotate_left; exact (by first | (simp; done) | (simp; omega) | omega)) | (rw [World.cell?_setCell_far]; rotate_left; exact (by first | (simp; done) | (simp; omega) | omega)) | (rw [World.cell?_alloc_lt]; rotate_left; exact (by first | (simp; done) | (simp; omega) | omega))))) | (repeat (first | exact HI3.out | (refine ic_set ?_ (by first | (simp; done) | (simp; omega)) _) | (refine IC.later ?_ ((Below.refl _ _).alloc (Nat.le_refl _) _))))
  case rest =>
    obtain ⟨gn, gv, gL, cL, rfl, rfl, HC⟩ := hcut
    obtain ⟨hn, hb, r0, r2⟩ := HC.out
    have r1 := hn.m
    have HN := Lib.hid hn
    have HB := Lib.hid hb
    have hz1 := hn.sm
    have hz2 := hn.so
    have hz3 := hn.sn
    have hz4 := hn.sv
    have hz5 := hn.sL
    clear HC hn hb
    go_wp2_with fail
    refine (locks_c _ m _ (hm.later HB.out)).mono ?_
    rintro e w3 ⟨u3, rfl, ho3, hb3⟩
    have HO3 : Hid (Own wc.heap.size w3.heap.size w3 3 1 u3 (locksI m).length (ints (locksI m))) := Own.of ho3
    obtain ⟨a3, c3, rfl⟩ := own_slice ho3
    have HN3 := Lib.hid (HN.out.later hb3)
    have HB3 := Lib.hid (below_then HB.out hb3)
    have hz := hb3.size
    have HB4 := Lib.hid hb3
    clear ho3 hb3
    go_wp2_with fail
    refine (deleteFunc_c 102 Try.f102 Try.func102 (by kernel_rfl) rfl _ (skipP m O (mem O)) wc.heap.size w3.heap.size 3 _ _ _ (locksI m) _ rfl HO3.out (Nat.le_refl _) (by have := HLK.out; show (locksK m.doors m.doors.length).length ≤ _; omega) (fun j x hj hx w' hch => ?_)).mono ?_
    · obtain ⟨k, hk1, hk2⟩ := locks_at hj
      rw [hk1] at hx
      subst hx
      have hbq : Below wc.heap.size w3 w' := hch.below (Nat.le_refl _) hz
      have hn' := HN3.out.below hbq hz1 hz2 hz3 hz4 hz5
      exact nlK_c m O (nearN m O) (leftL m (nearN m O) (mem O)) w.heap.size (w.heap.size + 1) gn gv gL cd cL k ad (skipP m O (mem O) k) hk2 OK.out HNIN.out hO (by simp) w' (fun xn yn zn hX => by unfold skipP; rw [Int.toNat_natCast, canK_lack HOP.out (by have := door_facts OK.out hk2 hX; omega) hX]) (hd.later ((below_then HB.out HB4.out).trans (hbq.mono (by have := HB.out.size; omega)))) hn'.m hn'.o hn'.n hn'.v hn'.L hn'.sm hn'.so hn'.sn hn'.sv
    · rintro e w4 ⟨u4, rfl, ho4, hc4⟩
      rw [HNE.out] at ho4
      go_wp2_with fail
      go_ret
      exact ⟨_, rfl, ho4.mono (by have := HB.out.size; omega) hc4.size, HB3.out.trans (hc4.below (by have := HB.out.size; omega) (by have := HB3.out.size; omega))⟩
end Go.Proofs.Ytbaahghfjmkeoaa
