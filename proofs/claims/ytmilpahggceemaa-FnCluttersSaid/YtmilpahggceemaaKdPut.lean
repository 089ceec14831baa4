/- l1Put: a number put to its place in a sorted list. -/
import Derived.Test.YtmilpahggceemaaKdSort
import Derived.Test.YtmilpahggceemaaKdMem
import Derived.Test.YtmilpahggceemaaKdOpen
import Derived.Deep.AppendLies
import Derived.Deep.RegionLaw
set_option linter.unusedVariables false
set_option linter.unusedSimpArgs false
namespace Go
open Go.RowKit Go.KD
theorem step_append_any {P : Program} (w : World) {ops : Array Oper} {o : Oper} {a : Act} {K : Act → World → Prop} {Q : Exit → Act → World → Prop} {E : Prop} (hgd : o.guard = none) (s x : Operand) (t : TypeId)
    (ho : o.op = .call { callee := .builtin .append, args := #[s, x], argTypes := #[t, t] })
    (base : Nat) (e : TypeId) (i : TypeInfo) (z : Value) (size bytes : Nat) (ht : P.underlying t = some (.slice e)) (hi : P.info? e = some i) (hz : i.zero = some z)
    (hsize : i.size = size) (hby : i.bytes = bytes) (hzs : z.cells.size = size) (hsz : 0 < size)
    (v : Value) (n : Nat) (xs : List Value) (hs : a.eval s = v) (hown : w.ownsRow base e size v n xs)
    (ad : Addr) (m c : Nat) (news : List Value) (hx : a.eval x = .slice (some ad) m c) (hl : news.length = m * size) (hnews : ∀ j u, news[j]? = some u → w.cell? (ad.add j) = some u) (h1 : ∀ u ∈ news, u.oneCell' = true)
    (h63 : n + m ≤ maxLen) (hbytes : (n + m) * bytes ≤ 140737488355328) (hbase : base ≤ w.heap.size)
    (h : ∀ v' w', w'.ownsRow base e size v' (n + m) (xs ++ news) → w.grownBy w' v.ownBlock → K (a.put o.dst v') w') :
    if Region.wanted o (yielded ops a.tmps) = true then Oper.wp P o a w K Q else E := by
  have hw : Region.wanted o (yielded ops a.tmps) = true := by simp [Region.wanted, hgd]
  rw [if_pos hw]
  obtain ⟨v', w', hr, h2, h3, _⟩ := run_append_own_at (P := P) w base t o.type e i z size bytes ht hi hz hsize hby hzs hsz v n xs hown ad m c news hl hnews h1 h63 hbytes hbase
  unfold Oper.wp execOp
  simp only [ho, resolve, invoke, builtin, Sem.run_bind, Sem.run_pure, Result.andThen_ok, List.map_toArray, List.map_cons, List.map_nil, hs, hx, hr]
  exact h v' w' h2 h3
theorem heap1 (w : World) (o : Obj) : (w.alloc o).drew.heap[w.heap.size]? = some o := heap_alloc_new w o
theorem heap2 (w : World) (o p : Obj) : ((w.alloc o).alloc p).drew.heap[w.heap.size]? = some o := by
  show (Array.push (Array.push w.heap o) p)[w.heap.size]? = some o
  rw [Array.getElem?_push_lt (by simp)]
  simp
theorem heap3 (w : World) (o p : Obj) : ((w.alloc p).alloc o).drew.heap[w.heap.size + 1]? = some o := heap_alloc2_new w p o
theorem own_empty {W : World} {N base : Nat} {e : TypeId} (h : W.heap[N]? = some (.cells #[] e)) (hb : base ≤ N) : W.ownsRow base e 1 (.slice (some ⟨N, 0, none⟩) 0 0) 0 [] :=
  ⟨rfl, .inr ⟨N, 0, #[], rfl, hb, h, Nat.le_refl _, Nat.zero_le _, rfl, rfl⟩⟩
theorem step_append_below {P : Program} (w : World) {ops : Array Oper} {o : Oper} {a : Act} {K : Act → World → Prop} {Q : Exit → Act → World → Prop} {E : Prop} (w0 : World) (base : Nat) (hB : Below base w0 w) (hgd : o.guard = none) (s x : Operand) (t : TypeId)
    (ho : o.op = .call { callee := .builtin .append, args := #[s, x], argTypes := #[t, t] })
    (e : TypeId) (i : TypeInfo) (z : Value) (size bytes : Nat) (ht : P.underlying t = some (.slice e)) (hi : P.info? e = some i) (hz : i.zero = some z)
    (hsize : i.size = size) (hby : i.bytes = bytes) (hzs : z.cells.size = size) (hsz : 0 < size)
    (v : Value) (n : Nat) (xs : List Value) (hs : a.eval s = v) (hown : w.ownsRow base e size v n xs)
    (ad : Addr) (m c : Nat) (news : List Value) (hx : a.eval x = .slice (some ad) m c) (hl : news.length = m * size) (hnews : ∀ j u, news[j]? = some u → w.cell? (ad.add j) = some u) (h1 : ∀ u ∈ news, u.oneCell' = true)
    (h63 : n + m ≤ maxLen) (hbytes : (n + m) * bytes ≤ 140737488355328) (hbase : base ≤ w.heap.size)
    (h : ∀ v' w', w'.ownsRow base e size v' (n + m) (xs ++ news) → w.grownBy w' v.ownBlock → Below base w0 w' → K (a.put o.dst v') w') :
    if Region.wanted o (yielded ops a.tmps) = true then Oper.wp P o a w K Q else E :=
  step_append_any w hgd s x t ho base e i z size bytes ht hi hz hsize hby hzs hsz v n xs hs hown ad m c news hx hl hnews h1 h63 hbytes hbase
    fun v' w' h2 h3 => h v' w' h2 h3 (hB.grown h3 hbase (fun g hg => own_block_lo hown hg))
end Go
namespace Go.KD
open Go.RowKit
theorem news_take {W : World} {b off : Nat} {l : List Int} (h : IC W (some ⟨b, off, none⟩) l) (k : Nat) : ∀ j u, (ints (l.take k))[j]? = some u → W.cell? ((⟨b, off, none⟩ : Addr).add j) = some u := by
  intro j u hu
  rw [ints, List.getElem?_map, List.getElem?_take] at hu
  split at hu
  · rcases Nat.lt_or_ge j l.length with hj | hj
    · obtain ⟨b', off', hb, -, hc⟩ := h j hj
      cases hb
      rw [add_at rfl, hc, ← hu, List.getElem?_eq_getElem hj, getElem!_pos l j hj]
      rfl
    · rw [List.getElem?_eq_none hj] at hu; cases hu
  · cases hu
theorem news_drop {W : World} {b off : Nat} {l : List Int} (h : IC W (some ⟨b, off, none⟩) l) (k : Nat) : ∀ j u, (ints (l.drop k))[j]? = some u → W.cell? ((⟨b, off + k, none⟩ : Addr).add j) = some u := by
  intro j u hu
  rw [ints, List.getElem?_map, List.getElem?_drop] at hu
  rcases Nat.lt_or_ge (k + j) l.length with hj | hj
  · obtain ⟨b', off', hb, -, hc⟩ := h (k + j) hj
    cases hb
    rw [add_at rfl, Nat.add_assoc, hc, ← hu, List.getElem?_eq_getElem hj, getElem!_pos l (k + j) hj]
    rfl
  · rw [List.getElem?_eq_none hj] at hu; cases hu
theorem ints_one {l : List Int} : ∀ u ∈ ints l, u.oneCell' = true := by
  intro u hu
  simp only [ints, List.mem_map] at hu
  obtain ⟨x, _, rfl⟩ := hu
  rfl
theorem put_end {w3 : World} {base : Nat} {e : TypeId} {v3 : Value} {l : List Int} {x : Int} {k : Nat} (hk : k ≤ l.length)
    (h : w3.ownsRow base e 1 v3 (0 + k + 1 + (l.length - k)) ([] ++ ints (l.take k) ++ ints [x] ++ ints (l.drop k))) :
    ∃ g c', v3 = .slice (some ⟨g, 0, none⟩) (l.take k ++ x :: l.drop k).length c' ∧ IC w3 (some ⟨g, 0, none⟩) (l.take k ++ x :: l.drop k) ∧ (l.take k ++ x :: l.drop k).length ≤ c' ∧ c' ≤ maxLen ∧ base ≤ g := by
  have e1 : 0 + k + 1 + (l.length - k) = (l.take k ++ x :: l.drop k).length := by simp; omega
  have e2 : [] ++ ints (l.take k) ++ ints [x] ++ ints (l.drop k) = ints (l.take k ++ x :: l.drop k) := by simp [ints]
  rw [e1, e2] at h
  rcases h.2 with ⟨_, h0⟩ | ⟨g, c, cur, hv, hlo, _, hc, hm, _⟩
  · simp at h0
  · subst hv
    obtain ⟨a', c', he, _, hi⟩ := (Own.of h).ic
    cases he
    exact ⟨g, c, rfl, hi, hc, hm, hlo⟩
end Go.KD
