/- l1Put: a number put to its place in a sorted list. -/
import Derived.Test.YtajjkmapibppaaaKdActs2
import Derived.Deep.AppendLies
import Derived.Deep.RegionLaw
set_option linter.unusedVariables false
set_option linter.unusedSimpArgs false
namespace Go.KD
open Go.RowKit
def putL : List Int → Int → List Int
  | [], n => [n]
  | x :: l, n => if x < n then x :: putL l n else if x = n then x :: l else n :: x :: l
theorem putL_eq : ∀ (l : List Int) (n : Int) (k : Nat), k ≤ l.length → (∀ j, j < k → l[j]! < n) → (k < l.length → ¬ l[k]! < n) → putL l n = if k < l.length ∧ l[k]! = n then l else l.take k ++ n :: l.drop k
  | [], n, k, hk, _, _ => by
    obtain rfl : k = 0 := by simpa using hk
    simp [putL]
  | x :: l, n, 0, _, _, h => by
    have h := h (by simp)
    simp only [List.getElem!_cons_zero] at h
    by_cases hx : x = n
    · simp [putL, hx]
    · simp [putL, h, hx]
  | x :: l, n, k + 1, hk, hj, h => by
    have h0 := hj 0 (by omega)
    simp only [List.getElem!_cons_zero] at h0
    have ih := putL_eq l n k (by simpa using hk) (fun j hjk => by have := hj (j + 1) (by omega); simpa using this) (fun hkl => by have := h (by simpa using hkl); simpa using this)
    simp only [putL, h0, if_true, ih, List.length_cons, Nat.add_lt_add_iff_right, List.getElem!_cons_succ, List.take_succ_cons, List.drop_succ_cons, List.cons_append]
    split <;> rfl
theorem mem_putL : ∀ (l : List Int) (n y : Int), y ∈ putL l n ↔ y ∈ l ∨ y = n
  | [], n, y => by simp [putL]
  | x :: l, n, y => by
    unfold putL
    split
    · simp [mem_putL l n y, or_assoc]
    · split
      · rename_i h; subst h; simp; intro h; exact .inl h
      · simp only [List.mem_cons]; constructor
        · rintro (h | h | h) <;> simp [h]
        · rintro ((h | h) | h) <;> simp [h]
theorem putL_sorted : ∀ (l : List Int) (n : Int), l.Pairwise (· < ·) → (putL l n).Pairwise (· < ·)
  | [], n, _ => by simp [putL]
  | x :: l, n, h => by
    rw [List.pairwise_cons] at h
    unfold putL
    split
    · rename_i hx
      rw [List.pairwise_cons]
      refine ⟨fun y hy => ?_, putL_sorted l n h.2⟩
      rcases (mem_putL l n y).1 hy with hy | rfl
      · exact h.1 y hy
      · exact hx
    · split
      · exact List.pairwise_cons.2 h
      · rename_i h1 h2
        rw [List.pairwise_cons]
        refine ⟨fun y hy => ?_, List.pairwise_cons.2 h⟩
        rcases List.mem_cons.1 hy with rfl | hy
        · omega
        · have := h.1 y hy; omega
theorem sorted_ext : ∀ (a b : List Int), a.Pairwise (· < ·) → b.Pairwise (· < ·) → (∀ x, x ∈ a ↔ x ∈ b) → a = b
  | [], [], _, _, _ => rfl
  | [], y :: b, _, _, h => absurd ((h y).2 (by simp)) (by simp)
  | x :: a, [], _, _, h => absurd ((h x).1 (by simp)) (by simp)
  | x :: a, y :: b, ha, hb, h => by
    rw [List.pairwise_cons] at ha hb
    have hxy : x = y := by
      rcases List.mem_cons.1 ((h x).1 (by simp)) with e | e
      · exact e
      · rcases List.mem_cons.1 ((h y).2 (by simp)) with e' | e'
        · exact e'.symm
        · have h1 := hb.1 x e; have h2 := ha.1 y e'; omega
    subst hxy
    congr 1
    refine sorted_ext a b ha.2 hb.2 fun z => ⟨fun hz => ?_, fun hz => ?_⟩
    · rcases List.mem_cons.1 ((h z).1 (by simp [hz])) with e | e
      · have := ha.1 z hz; omega
      · exact e
    · rcases List.mem_cons.1 ((h z).2 (by simp [hz])) with e | e
      · have := hb.1 z hz; omega
      · exact e
theorem in_mem (s : Nat) (y : Int) : y ∈ mem s ↔ ∃ i : Nat, i < 40 ∧ s.testBit i = true ∧ y = i := by
  simp only [mem, memN, List.mem_map, List.mem_filter, List.mem_range]
  constructor
  · rintro ⟨i, ⟨h1, h2⟩, rfl⟩; exact ⟨i, h1, h2, rfl⟩
  · rintro ⟨i, h1, h2, rfl⟩; exact ⟨i, ⟨h1, h2⟩, rfl⟩
theorem mem_sorted (s : Nat) : (mem s).Pairwise (· < ·) := by
  unfold mem memN
  rw [List.pairwise_map]
  refine (List.pairwise_lt_range.filter _).imp fun h => by omega
theorem put_mem (p : List Int) (hp : p = [] ∨ p = [-1]) (s n : Nat) (hn : n < 40) : putL (p ++ mem s) n = p ++ mem (s ||| 2 ^ n) := by
  have hs : ∀ t : Nat, (p ++ mem t).Pairwise (· < ·) := by
    intro t
    rcases hp with rfl | rfl
    · exact mem_sorted t
    · show ((-1 : Int) :: mem t).Pairwise _
      rw [List.pairwise_cons]
      refine ⟨fun y hy => ?_, mem_sorted t⟩
      obtain ⟨i, _, _, rfl⟩ := (in_mem t y).1 hy
      omega
  refine sorted_ext _ _ (putL_sorted _ _ (hs s)) (hs _) fun y => ?_
  rw [mem_putL, List.mem_append, List.mem_append, in_mem, in_mem]
  constructor
  · rintro ((h | ⟨i, h1, h2, rfl⟩) | rfl)
    · exact .inl h
    · exact .inr ⟨i, h1, by simp [h2], rfl⟩
    · exact .inr ⟨n, hn, by simp [Nat.testBit_two_pow], rfl⟩
  · rintro (h | ⟨i, h1, h2, rfl⟩)
    · exact .inl (.inl h)
    · rw [Nat.testBit_or, Bool.or_eq_true] at h2
      rcases h2 with h2 | h2
      · exact .inl (.inr ⟨i, h1, h2, rfl⟩)
      · rw [Nat.testBit_two_pow] at h2
        have : n = i := by simpa using h2
        subst this
        exact .inr rfl
end Go.KD
namespace Go
open Go.RowKit Go.KD
theorem step_append_any {P : Program} (w : World) {ops : Array Oper} {o : Oper} {a : Act} {K : Act → World → Prop} {Q : Exit → Act → World → Prop} {E : Prop} (hgd : o.guard = none) (s x : Operand) (t : TypeId)
    (ho : o.op = .call { callee := .builtin .append, args := #[s, x], argTypes := #[t, t] })
    (base : Nat) (e : TypeId) (i : TypeInfo) (z : Value) (size bytes : Nat) (ht : P.underlying t = some (.slice e)) (hi : P.info? e = some i) (hz : i.zero = some z)
    (hsize : i.size = size) (hby : i.bytes = bytes) (hzs : z.cells.size = size) (hsz : 0 < size)
    (v : Value) (n : Nat) (xs : List Value) (hs : a.eval s = v) (hown : w.ownsRow base e size v n xs)
    (ad : Addr) (m c : Nat) (news : List Value) (hx : a.eval x = .slice (some ad) m c) (hl : news.length = m * size) (hnews : ∀ j u, news[j]? = some u → w.cell? (ad.add j) = some u) (h1 : ∀ u ∈ news, u.oneCell' = true)
    (h63 : n + m ≤ maxLen) (hbytes : (n + m) * bytes ≤ 140737488355328) (hbase : base ≤ w.heap.size)
    (h : ∀ v' w', w'.ownsRow base e size v' (n + m) (xs ++ news) → w.grownBy w' v.ownBlock → K (a.put o.dst v') w') :
    if Region.wanted o (yielded ops a.tmps) = true then Oper.wp P o a w K Q else E := by
  have hw : Region.wanted o (yielded ops a.tmps) = true := by simp [Region.wanted, hgd]
  rw [if_pos hw]
  obtain ⟨v', w', hr, h2, h3, _⟩ := run_append_own_at (P := P) w base t o.type e i z size bytes ht hi hz hsize hby hzs hsz v n xs hown ad m c news hl hnews h1 h63 hbytes hbase
  unfold Oper.wp execOp
  simp only [ho, resolve, invoke, builtin, Sem.run_bind, Sem.run_pure, Result.andThen_ok, List.map_toArray, List.map_cons, List.map_nil, hs, hx, hr]
  exact h v' w' h2 h3
theorem heap1 (w : World) (o : Obj) : (w.alloc o).drew.heap[w.heap.size]? = some o := heap_alloc_new w o
theorem heap2 (w : World) (o p : Obj) : ((w.alloc o).alloc p).drew.heap[w.heap.size]? = some o := by
  show (Array.push (Array.push w.heap o) p)[w.heap.size]? = some o
  rw [Array.getElem?_push_lt (by simp)]
  simp
theorem heap3 (w : World) (o p : Obj) : ((w.alloc p).alloc o).drew.heap[w.heap.size + 1]? = some o := heap_alloc2_new w p o
theorem own_empty {W : World} {N base : Nat} {e : TypeId} (h : W.heap[N]? = some (.cells #[] e)) (hb : base ≤ N) : W.ownsRow base e 1 (.slice (some ⟨N, 0, none⟩) 0 0) 0 [] :=
  ⟨rfl, .inr ⟨N, 0, #[], rfl, hb, h, Nat.le_refl _, Nat.zero_le _, rfl, rfl⟩⟩
theorem step_append_below {P : Program} (w : World) {ops : Array Oper} {o : Oper} {a : Act} {K : Act → World → Prop} {Q : Exit → Act → World → Prop} {E : Prop} (w0 : World) (base : Nat) (hB : Below base w0 w) (hgd : o.guard = none) (s x : Operand) (t : TypeId)
    (ho : o.op = .call { callee := .builtin .append, args := #[s, x], argTypes := #[t, t] })
    (e : TypeId) (i : TypeInfo) (z : Value) (size bytes : Nat) (ht : P.underlying t = some (.slice e)) (hi : P.info? e = some i) (hz : i.zero = some z)
    (hsize : i.size = size) (hby : i.bytes = bytes) (hzs : z.cells.size = size) (hsz : 0 < size)
    (v : Value) (n : Nat) (xs : List Value) (hs : a.eval s = v) (hown : w.ownsRow base e size v n xs)
    (ad : Addr) (m c : Nat) (news : List Value) (hx : a.eval x = .slice (some ad) m c) (hl : news.length = m * size) (hnews : ∀ j u, news[j]? = some u → w.cell? (ad.add j) = some u) (h1 : ∀ u ∈ news, u.oneCell' = true)
    (h63 : n + m ≤ maxLen) (hbytes : (n + m) * bytes ≤ 140737488355328) (hbase : base ≤ w.heap.size)
    (h : ∀ v' w', w'.ownsRow base e size v' (n + m) (xs ++ news) → w.grownBy w' v.ownBlock → Below base w0 w' → K (a.put o.dst v') w') :
    if Region.wanted o (yielded ops a.tmps) = true then Oper.wp P o a w K Q else E :=
  step_append_any w hgd s x t ho base e i z size bytes ht hi hz hsize hby hzs hsz v n xs hs hown ad m c news hx hl hnews h1 h63 hbytes hbase
    fun v' w' h2 h3 => h v' w' h2 h3 (hB.grown h3 hbase (fun g hg => own_block_lo hown hg))
end Go
namespace Go.KD
open Go.RowKit
theorem news_take {W : World} {b off : Nat} {l : List Int} (h : IC W (some ⟨b, off, none⟩) l) (k : Nat) : ∀ j u, (ints (l.take k))[j]? = some u → W.cell? ((⟨b, off, none⟩ : Addr).add j) = some u := by
  intro j u hu
  rw [ints, List.getElem?_map, List.getElem?_take] at hu
  split at hu
  · rcases Nat.lt_or_ge j l.length with hj | hj
    · obtain ⟨b', off', hb, -, hc⟩ := h j hj
      cases hb
      rw [add_at rfl, hc, ← hu, List.getElem?_eq_getElem hj, getElem!_pos l j hj]
      rfl
    · rw [List.getElem?_eq_none hj] at hu; cases hu
  · cases hu
theorem news_drop {W : World} {b off : Nat} {l : List Int} (h : IC W (some ⟨b, off, none⟩) l) (k : Nat) : ∀ j u, (ints (l.drop k))[j]? = some u → W.cell? ((⟨b, off + k, none⟩ : Addr).add j) = some u := by
  intro j u hu
  rw [ints, List.getElem?_map, List.getElem?_drop] at hu
  rcases Nat.lt_or_ge (k + j) l.length with hj | hj
  · obtain ⟨b', off', hb, -, hc⟩ := h (k + j) hj
    cases hb
    rw [add_at rfl, Nat.add_assoc, hc, ← hu, List.getElem?_eq_getElem hj, getElem!_pos l (k + j) hj]
    rfl
  · rw [List.getElem?_eq_none hj] at hu; cases hu
theorem ints_one {l : List Int} : ∀ u ∈ ints l, u.oneCell' = true := by
  intro u hu
  simp only [ints, List.mem_map] at hu
  obtain ⟨x, _, rfl⟩ := hu
  rfl
theorem put_end {w3 : World} {base : Nat} {e : TypeId} {v3 : Value} {l : List Int} {x : Int} {k : Nat} (hk : k ≤ l.length)
    (h : w3.ownsRow base e 1 v3 (0 + k + 1 + (l.length - k)) ([] ++ ints (l.take k) ++ ints [x] ++ ints (l.drop k))) :
    ∃ g c', v3 = .slice (some ⟨g, 0, none⟩) (l.take k ++ x :: l.drop k).length c' ∧ IC w3 (some ⟨g, 0, none⟩) (l.take k ++ x :: l.drop k) ∧ (l.take k ++ x :: l.drop k).length ≤ c' ∧ c' ≤ maxLen := by
  have e1 : 0 + k + 1 + (l.length - k) = (l.take k ++ x :: l.drop k).length := by simp; omega
  have e2 : [] ++ ints (l.take k) ++ ints [x] ++ ints (l.drop k) = ints (l.take k ++ x :: l.drop k) := by simp [ints]
  rw [e1, e2] at h
  rcases h.2 with ⟨_, h0⟩ | ⟨g, c, cur, hv, _, _, hc, hm, _⟩
  · simp at h0
  · subst hv
    obtain ⟨a', c', he, _, hi⟩ := (Own.of h).ic
    cases he
    exact ⟨g, c, rfl, hi, hc, hm⟩
end Go.KD
