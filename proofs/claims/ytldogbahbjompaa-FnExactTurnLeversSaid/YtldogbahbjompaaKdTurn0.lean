/- Gates put to their places; works whose levers are turned. Plain words. -/
import Derived.Test.YtldogbahbjompaaKdGates
set_option linter.unusedVariables false
set_option linter.unusedSimpArgs false
namespace Go.KD
open Go.RowKit
def putG : List D4 → D4 → List D4
  | [], n => [n]
  | x :: l, n => if lt4 x n = true then x :: putG l n else if x = n then x :: l else n :: x :: l
theorem putG_eq : ∀ (l : List D4) (n : D4) (k : Nat), k ≤ l.length → (∀ j, j < k → lt4 l[j]! n = true) → (k < l.length → lt4 l[k]! n = false) → putG l n = if k < l.length ∧ l[k]! = n then l else l.take k ++ n :: l.drop k
  | [], n, k, hk, _, _ => by
    obtain rfl : k = 0 := by simpa using hk
    simp [putG]
  | x :: l, n, 0, _, _, h => by
    have h := h (by simp)
    simp only [List.getElem!_cons_zero] at h
    by_cases hx : x = n
    · subst hx; simp [putG, h]
    · simp [putG, h, hx]
  | x :: l, n, k + 1, hk, hj, h => by
    have h0 := hj 0 (by omega)
    simp only [List.getElem!_cons_zero] at h0
    have ih := putG_eq l n k (by simpa using hk) (fun j hjk => by have := hj (j + 1) (by omega); simpa using this) (fun hkl => by have := h (by simpa using hkl); simpa using this)
    simp only [putG, h0, if_true, ih, List.length_cons, Nat.add_lt_add_iff_right, List.getElem!_cons_succ, List.take_succ_cons, List.drop_succ_cons, List.cons_append]
    split <;> rfl
theorem mem_putG : ∀ (l : List D4) (n y : D4), y ∈ putG l n ↔ y ∈ l ∨ y = n
  | [], n, y => by simp [putG]
  | x :: l, n, y => by
    unfold putG
    split
    · simp [mem_putG l n y, or_assoc]
    · split
      · rename_i h; subst h; simp; intro h; exact .inl h
      · simp only [List.mem_cons]; constructor
        · rintro (h | h | h) <;> simp [h]
        · rintro ((h | h) | h) <;> simp [h]
theorem lt4_irrefl (a : D4) : lt4 a a = false := by simp [lt4]
theorem lt4_trans {a b c : D4} (h1 : lt4 a b = true) (h2 : lt4 b c = true) : lt4 a c = true := by
  obtain ⟨a1, a2, a3, a4⟩ := a
  obtain ⟨b1, b2, b3, b4⟩ := b
  obtain ⟨c1, c2, c3, c4⟩ := c
  simp only [lt4] at *
  (repeat' split at h1) <;> (repeat' split at h2) <;> simp only [decide_eq_true_eq] at * <;> (repeat' split) <;> simp only [decide_eq_true_eq] at * <;> omega
theorem lt4_tot {a b : D4} (h1 : lt4 a b = false) (h2 : lt4 b a = false) : a = b := by
  obtain ⟨a1, a2, a3, a4⟩ := a
  obtain ⟨b1, b2, b3, b4⟩ := b
  simp only [lt4] at *
  (repeat' split at h1) <;> (repeat' split at h2) <;> simp only [decide_eq_false_iff_not] at * <;> simp only [Prod.mk.injEq] <;> omega
theorem lt4_asymm {a b : D4} (h : lt4 a b = true) : lt4 b a = false := by
  cases h2 : lt4 b a
  · rfl
  · have := lt4_trans h h2; rw [lt4_irrefl] at this; cases this
theorem putG_sorted : ∀ (l : List D4) (n : D4), l.Pairwise (fun x y => lt4 x y = true) → (putG l n).Pairwise (fun x y => lt4 x y = true)
  | [], n, _ => by simp [putG]
  | x :: l, n, h => by
    rw [List.pairwise_cons] at h
    unfold putG
    split
    · rename_i hx
      rw [List.pairwise_cons]
      refine ⟨fun y hy => ?_, putG_sorted l n h.2⟩
      rcases (mem_putG l n y).1 hy with hy | rfl
      · exact h.1 y hy
      · exact hx
    · split
      · exact List.pairwise_cons.2 h
      · rename_i h1 h2
        have hnx : lt4 n x = true := by
          cases h3 : lt4 n x
          · exact absurd (lt4_tot (by simpa using h1) h3) h2
          · rfl
        rw [List.pairwise_cons]
        refine ⟨fun y hy => ?_, List.pairwise_cons.2 h⟩
        rcases List.mem_cons.1 hy with rfl | hy
        · exact hnx
        · exact lt4_trans hnx (h.1 y hy)
theorem sorted4_ext : ∀ (a b : List D4), a.Pairwise (fun x y => lt4 x y = true) → b.Pairwise (fun x y => lt4 x y = true) → (∀ x, x ∈ a ↔ x ∈ b) → a = b
  | [], [], _, _, _ => rfl
  | [], y :: b, _, _, h => absurd ((h y).2 (by simp)) (by simp)
  | x :: a, [], _, _, h => absurd ((h x).1 (by simp)) (by simp)
  | x :: a, y :: b, ha, hb, h => by
    rw [List.pairwise_cons] at ha hb
    have hxy : x = y := by
      rcases List.mem_cons.1 ((h x).1 (by simp)) with e | e
      · exact e
      · rcases List.mem_cons.1 ((h y).2 (by simp)) with e' | e'
        · exact e'.symm
        · have h1 := hb.1 x e; have h2 := ha.1 y e'
          rw [lt4_asymm h1] at h2; cases h2
    subst hxy
    congr 1
    refine sorted4_ext a b ha.2 hb.2 fun z => ⟨fun hz => ?_, fun hz => ?_⟩
    · rcases List.mem_cons.1 ((h z).1 (by simp [hz])) with e | e
      · have := ha.1 z hz; rw [e, lt4_irrefl] at this; cases this
      · exact e
    · rcases List.mem_cons.1 ((h z).2 (by simp [hz])) with e | e
      · have := hb.1 z hz; rw [e, lt4_irrefl] at this; cases this
      · exact e
/-- A gate under turned levers. -/
def turnD (l : Int) (g : D4) : Int := ((g.2.2.2.toNat ^^^ (popN (g.2.2.1.toNat &&& l.toNat) % 2) : Nat) : Int)
def turnG (l : Int) (g : D4) : D4 := (g.1, g.2.1, g.2.2.1, turnD l g)
def turnK (l : Int) (gs : List D4) (k : Nat) : List D4 := ((gs.take k).map (turnG l)).foldl putG []
def turnL (l : Int) (gs : List D4) : List D4 := turnK l gs gs.length
theorem turnK_step {l : Int} {gs : List D4} {k : Nat} (hk : k < gs.length) : turnK l gs (k + 1) = putG (turnK l gs k) (turnG l gs[k]!) := by
  unfold turnK
  rw [take_snoc hk, List.map_append, List.foldl_append]; rfl
theorem putG_len (l : List D4) (n : D4) : (putG l n).length ≤ l.length + 1 := by
  induction l with
  | nil => simp [putG]
  | cons x l ih => unfold putG; (repeat' split) <;> simp <;> omega
theorem turnK_len (l : Int) (gs : List D4) : ∀ k, k ≤ gs.length → (turnK l gs k).length ≤ k
  | 0, _ => by simp [turnK]
  | k + 1, hk => by
    rw [turnK_step (by omega)]
    have := turnK_len l gs k (by omega)
    have := putG_len (turnK l gs k) (turnG l gs[k]!)
    omega
theorem turnL_len (l : Int) (gs : List D4) : (turnL l gs).length ≤ gs.length := turnK_len l gs _ (Nat.le_refl _)
theorem foldl_putG : ∀ (gs A : List D4), A.Pairwise (fun x y => lt4 x y = true) → (gs.foldl putG A).Pairwise (fun x y => lt4 x y = true) ∧ ∀ x, x ∈ gs.foldl putG A ↔ x ∈ A ∨ x ∈ gs
  | [], A, h => ⟨h, fun x => by simp⟩
  | g :: gs, A, h => by
    have := foldl_putG gs (putG A g) (putG_sorted A g h)
    refine ⟨this.1, fun x => ?_⟩
    rw [List.foldl_cons, this.2, mem_putG, List.mem_cons]
    constructor
    · rintro ((h | h) | h) <;> simp [h]
    · rintro (h | h | h) <;> simp [h]
theorem turnL_ok (l : Int) (gs : List D4) : (turnL l gs).Pairwise (fun x y => lt4 x y = true) ∧ ∀ x, x ∈ turnL l gs ↔ x ∈ gs.map (turnG l) := by
  have := foldl_putG (gs.map (turnG l)) [] List.Pairwise.nil
  unfold turnL turnK
  rw [List.take_length]
  exact ⟨this.1, fun x => by rw [this.2]; simp⟩
/-- Gates in order are each there once. -/
theorem gates_sorted {m : Wk} (ok : WkOk m) : m.gates.Pairwise (fun x y => lt4 x y = true) := by
  have key : ∀ k, k < m.gates.length → ∀ i, i < k → lt4 m.gates[i]! m.gates[k]! = true := by
    intro k
    induction k with
    | zero => intro _ i hi; omega
    | succ k ih =>
      intro hk i hi
      have h1 : lt4 m.gates[k]! m.gates[k + 1]! = true := by
        have := ok.gt (k + 1) hk
        obtain ⟨a, b, c, d, hg⟩ : ∃ a b c d, m.gates[k + 1]! = (a, b, c, d) := ⟨_, _, _, _, rfl⟩
        rw [gateB_eq hg] at this
        rw [hg]
        simp only [Bool.and_eq_true] at this
        have h2 := this.2
        simpa using h2
      by_cases e : i = k
      · subst e; exact h1
      · exact lt4_trans (ih (by omega) i (by omega)) h1
  rw [List.pairwise_iff_getElem]
  intro i j hi hj hij
  have := key j hj i hij
  rwa [getElem!_pos m.gates i hi, getElem!_pos m.gates j hj] at this
theorem xor_inj {a b c : Nat} (h : a ^^^ c = b ^^^ c) : a = b := by
  have := congrArg (fun z => z ^^^ c) h
  simpa [Nat.xor_assoc] using this
theorem turn_nodup {m : Wk} (ok : WkOk m) (l : Int) : (m.gates.map (turnG l)).Nodup := by
  unfold List.Nodup
  rw [List.pairwise_map]
  refine List.Pairwise.imp_of_mem (fun {a b} ha hb hlt e => ?_) (gates_sorted ok)
  obtain ⟨i, hi, rfl⟩ := List.mem_iff_getElem.1 ha
  obtain ⟨j, hj, rfl⟩ := List.mem_iff_getElem.1 hb
  rw [← getElem!_pos m.gates i hi, ← getElem!_pos m.gates j hj] at *
  obtain ⟨a1, a2, a3, a4, hga⟩ : ∃ a b c d, m.gates[i]! = (a, b, c, d) := ⟨_, _, _, _, rfl⟩
  obtain ⟨b1, b2, b3, b4, hgb⟩ : ∃ a b c d, m.gates[j]! = (a, b, c, d) := ⟨_, _, _, _, rfl⟩
  have fa := gate_facts ok hi hga
  have fb := gate_facts ok hj hgb
  rw [hga, hgb] at hlt e
  simp only [turnG, turnD, Prod.mk.injEq] at e
  obtain ⟨rfl, rfl, rfl, e4⟩ := e
  have := xor_inj (Int.ofNat.inj e4)
  have : a4 = b4 := by omega
  subst this
  rw [lt4_irrefl] at hlt; cases hlt
/-- What is sorted and has the turned gates is the answer. -/
theorem turn_unique {m : Wk} (ok : WkOk m) (l : Int) {S : List D4} (hp : S.Perm (m.gates.map (turnG l))) (hs : S.Pairwise (fun x y => lt4 y x = false)) : S = turnL l m.gates := by
  have hn := hp.nodup_iff.2 (turn_nodup ok l)
  have h := turnL_ok l m.gates
  refine sorted4_ext _ _ ?_ h.1 fun x => by rw [h.2, hp.mem_iff]
  refine (List.Pairwise.and hs hn).imp fun {a b} ⟨h1, h2⟩ => ?_
  cases h3 : lt4 a b
  · exact absurd (lt4_tot h3 h1) h2
  · rfl
noncomputable def pTurnLevers (m : Wk) (l : Int) : Wk × Bool := if worksB m && setB l then (⟨m.size, turnL l m.gates, m.pulls⟩, true) else (⟨0, [], []⟩, false)
end Go.KD
