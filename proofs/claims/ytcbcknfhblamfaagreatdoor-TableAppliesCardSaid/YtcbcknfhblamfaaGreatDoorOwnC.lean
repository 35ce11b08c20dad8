/- Slices of rows that the call owns: appended to, sorted. -/
import Derived.Test.YtcbcknfhblamfaaGreatDoorProg
import Derived.Test.YtcbcknfhblamfaaGreatDoorCmpG
import Derived.Test.YtcbcknfhblamfaaGreatDoorTabR
import Derived.Maps.AppendAt
namespace Go.Proofs.YtcbcknfhblamfaaGreatDoor
open Go.RowKit Go.Shelf

/-- Rows' cells, one behind the other. -/
def flatC (l : List Cell) : List Value := l.flatMap cellVs
theorem flatC_length : ∀ l : List Cell, (flatC l).length = l.length * 4
  | [] => rfl
  | c :: l => by
    have h : flatC (c :: l) = cellVs c ++ flatC l := rfl
    rw [h, List.length_append, flatC_length l]
    simp [cellVs]; omega
theorem flatC_append (l m : List Cell) : flatC (l ++ m) = flatC l ++ flatC m := List.flatMap_append
theorem flatC_get : ∀ (l : List Cell) (t : Nat), t < l.length * 4 → (flatC l)[t]? = some ((cellVs (l[t / 4]!))[t % 4]!)
  | [], t, h => by simp at h
  | c :: l, t, h => by
    have e : flatC (c :: l) = cellVs c ++ flatC l := rfl
    rw [e]
    have hl : (cellVs c).length = 4 := rfl
    by_cases h4 : t < 4
    · rw [List.getElem?_append_left (by rw [hl]; exact h4)]
      have h0 : t / 4 = 0 := by omega
      have h1 : t % 4 = t := by omega
      rw [h0, h1, List.getElem?_eq_getElem (by rw [hl]; exact h4)]
      simp [hl, h4]
    · rw [List.getElem?_append_right (by rw [hl]; omega), hl]
      have hlt : t - 4 < l.length * 4 := by simp at h; omega
      rw [flatC_get l (t - 4) hlt]
      have h0 : t / 4 = (t - 4) / 4 + 1 := by omega
      have h1 : t % 4 = (t - 4) % 4 := by omega
      rw [h0, h1]
      simp
theorem flatK_get (l : List Cell) (t : Nat) (h : t < l.length * 4) : (Go.Sort.flatK cellVs 4 l.toArray)[t]? = (flatC l)[t]? := by
  rw [flatC_get l t h]
  have h2 := Go.Sort.get_flatK cellVs 4 l.toArray t (by simpa using h)
  have hs : t < (Go.Sort.flatK cellVs 4 l.toArray).size := by simpa using h
  rw [getElem!_pos _ t hs] at h2
  rw [Array.getElem?_eq_getElem hs, h2]
  simp
/-- A slice of rows of the call's own. -/
def ownsCl (w : World) (base : Nat) (v : Value) (l : List Cell) : Prop := w.ownsRow base 44 4 v l.length (flatC l)
theorem ownsCl_nil (w : World) (base : Nat) : ownsCl w base (.slice none 0 0) [] := ⟨rfl, .inl ⟨rfl, rfl⟩⟩
theorem infoC : (Tryz.prog.info? 44).map (fun i => (i.zero, i.size, i.bytes)) = some (some (.agg (cellA zeroC)), 4, 64) := by kernel_rfl
theorem ownsCl.kept {w w' : World} {base : Nat} {v : Value} {l : List Cell} {row : Option Nat} (h : ownsCl w base v l) (hg : w.grownBy w' row) (hne : ∀ g, v.ownBlock = some g → some g ≠ row) : ownsCl w' base v l := by
  obtain ⟨h1, ⟨rfl, h2⟩ | ⟨g, cap, cur, rfl, hb, hh, h3⟩⟩ := h
  · exact ⟨h1, .inl ⟨rfl, h2⟩⟩
  · exact ⟨h1, .inr ⟨g, cap, cur, rfl, hb, (hg.block g (lt_of_heap hh) (hne g rfl)).trans hh, h3⟩⟩
theorem ownsCl.base {w : World} {base : Nat} {v : Value} {l : List Cell} (h : ownsCl w base v l) {g : Nat} (hg : v.ownBlock = some g) : base ≤ g ∧ g < w.heap.size := by
  obtain ⟨h1, ⟨rfl, h2⟩ | ⟨g', cap, cur, rfl, hb, hh, h3⟩⟩ := h
  · simp [Value.ownBlock] at hg
  · simp only [Value.ownBlock, Option.some.injEq] at hg
    subst hg
    exact ⟨hb, lt_of_heap hh⟩
theorem ownsCl.low {w : World} {base b : Nat} {v : Value} {l : List Cell} (h : ownsCl w base v l) (hb : b ≤ base) : ownsCl w b v l := by
  obtain ⟨h1, h2 | ⟨g, cap, cur, hv, hb', h3⟩⟩ := h
  · exact ⟨h1, .inl h2⟩
  · exact ⟨h1, .inr ⟨g, cap, cur, hv, Nat.le_trans hb hb', h3⟩⟩
/-- A slice of rows, its cells. -/
theorem ownsCl_form {w : World} {base : Nat} {v : Value} {l : List Cell} (h : ownsCl w base v l) (hl : l ≠ []) :
    ∃ g cap cur, v = .slice (some ⟨g, 0, none⟩) l.length cap ∧ base ≤ g ∧ w.heap[g]? = some (.cells cur 44 (0, 0)) ∧ l.length ≤ cap ∧ cap ≤ maxLen ∧ cur.size = cap * 4 ∧ cur.toList.take (l.length * 4) = flatC l := by
  obtain ⟨_, ⟨rfl, h0⟩ | ⟨g, cap, cur, rfl, hb, hh, hn, hc, hsz, hx⟩⟩ := h
  · exact absurd (List.length_eq_zero_iff.1 h0) hl
  · exact ⟨g, cap, cur, rfl, hb, hh, hn, hc, hsz, hx⟩
theorem row_cell {w : World} {g : Nat} {cur : Array Value} {l : List Cell} (hh : w.heap[g]? = some (.cells cur 44 (0, 0))) (hx : cur.toList.take (l.length * 4) = flatC l) (t : Nat) (ht : t < l.length * 4) :
    w.cell? ⟨g, t, none⟩ = some ((cellVs (l[t / 4]!))[t % 4]!) := by
  have h1 : (cur.toList.take (l.length * 4))[t]? = (flatC l)[t]? := by rw [hx]
  rw [List.getElem?_take_of_lt ht, flatC_get l t ht, Array.getElem?_toList] at h1
  rw [cell_in, hh]
  simp [cellIn, h1]
theorem holdsC {w : World} {g : Nat} {cur : Array Value} {l : List Cell} (hh : w.heap[g]? = some (.cells cur 44 (0, 0))) (hx : cur.toList.take (l.length * 4) = flatC l) : Go.Sort.HoldsK cellVs 4 w g 0 l.toArray := by
  intro t ht
  have ht' : t < l.length * 4 := by simpa using ht
  refine ⟨?_, by simp [World.frozen?, hh]⟩
  rw [Nat.zero_add, row_cell hh hx t ht', Go.Sort.get_flatK _ _ _ _ (by simpa using ht')]
  simp
theorem heap_sortedC {w : World} {g n : Nat} {os : Array Obj} {cur : Array Value} {e : TypeId} {fr : Nat × Nat} (d : Array Cell) (hb : w.heap[g]? = some (.cells cur e fr)) :
    (sortWorldK cellVs 4 w g 0 n d os).heap[g]? = some (.cells (Go.Sort.putCells id 0 (Go.Sort.flatK cellVs 4 d) cur) e fr) := by
  have hg : g < w.heap.size := (Array.getElem?_eq_some_iff.1 hb).1
  unfold sortWorldK Go.Sort.putRowK
  rw [Go.Sort.heap_grow_old _ _ (by simpa using hg)]
  simp [Go.Sort.putRow, Go.Sort.mapBlock, Go.Sort.ahead, Array.getElem?_modify, hb, Go.Sort.onCells]
theorem grownBy_sortedC {w : World} {g n : Nat} {os : Array Obj} (d : Array Cell) : w.grownBy (sortWorldK cellVs 4 w g 0 n d os) (some g) := by
  unfold sortWorldK Go.Sort.putRowK
  refine ⟨rfl, rfl, rfl, by simp, fun k hk hne => ?_⟩
  rw [Go.Sort.heap_grow_old _ _ (by simpa using hk)]
  have : g ≠ k := fun e => hne (by rw [e])
  simp [Go.Sort.putRow, Go.Sort.mapBlock, Go.Sort.ahead, Array.getElem?_modify, this]
theorem take_putC (cur : Array Value) (l : List Cell) (h : l.length * 4 ≤ cur.size) : (Go.Sort.putCells id 0 (Go.Sort.flatK cellVs 4 l.toArray) cur).toList.take (l.length * 4) = flatC l := by
  apply List.ext_getElem?
  intro j
  by_cases hj : j < l.length * 4
  · rw [List.getElem?_take_of_lt hj, Array.getElem?_toList, ← flatK_get l j hj]
    have hs : j < (Go.Sort.flatK cellVs 4 l.toArray).size := by simpa using hj
    rw [Array.getElem?_eq_getElem hs]
    simp [Go.Sort.putCells, hj, show j < cur.size by omega]
  · rw [List.getElem?_take_eq_none (by omega), List.getElem?_eq_none (by rw [flatC_length]; omega)]
theorem ownsCl_sorted {w : World} {base g cap n : Nat} {os : Array Obj} {cur : Array Value} {l m : List Cell} (hl : m.length = l.length) (hbase : base ≤ g) (hb : w.heap[g]? = some (.cells cur 44 (0, 0)))
    (h1 : l.length ≤ cap) (h2 : cap ≤ maxLen) (h3 : cur.size = cap * 4) : ownsCl (sortWorldK cellVs 4 w g 0 n m.toArray os) base (.slice (some ⟨g, 0, none⟩) l.length cap) m :=
  ⟨flatC_length m, .inr ⟨g, cap, _, by rw [hl], hbase, heap_sortedC _ hb, by omega, h2, by simp [Go.Sort.putCells, h3], take_putC cur m (by omega)⟩⟩
section
variable {ops : Array Oper} {rest : List Oper} {o : Oper} {a : Act} {w : World} {Q : Exit → Act → World → Prop}
/-- 'append(v, c)'. -/
theorem append_cell (base : Nat) (v : Value) (l : List Cell) (c : Cell) (s x : Operand) (cp : Nat)
    (ho : o.op = .call { callee := .builtin .append, args := #[s, x], argTypes := #[25, 25] }) (hgd : o.guard = none) (hs : a.eval s = v)
    (hx : a.eval x = .slice (some ⟨w.heap.size, 0, none⟩) 1 cp) (hown : ownsCl w base v l) (hlen : l.length ≤ 1099511627776) (hbase : base ≤ w.heap.size)
    (h : ∀ v' w', ownsCl w' base v' (l ++ [c]) → w.grownBy w' v.ownBlock → v' ≠ .slice none 0 0 → wpList Tryz.prog ops Q rest (a.put o.dst v') w') :
    wpList Tryz.prog ops Q (o :: rest) a (w.alloc (.cells #[.string c.table, .string c.row, .string c.subject, .string c.value] 44)) := by
  obtain ⟨i0, hi, hz0, hz1, hz2⟩ := info_parts infoC
  refine wpList_append_own_at _ hgd s x 25 ho base 44 i0 (.agg (cellA zeroC)) 4 64 Tryz.underlying25 hi hz0 hz1 hz2 rfl (by decide) v l.length (flatC l) hs (World.ownsRow.alloc hown _)
    ⟨w.heap.size, 0, none⟩ 1 cp (cellVs c) hx rfl ?_ (by intro u hu; simp [cellVs] at hu; rcases hu with rfl | rfl | rfl | rfl <;> rfl) (by unfold maxLen; omega) (by omega) (by simp; omega) ?_
  · intro j u hj
    have hadd : (⟨w.heap.size, 0, none⟩ : Addr).add j = ⟨w.heap.size, j, none⟩ := by unfold Addr.add; split <;> simp_all
    rw [hadd, World.cell?_alloc_new, show #[Value.string c.table, .string c.row, .string c.subject, .string c.value] = (cellVs c).toArray from rfl, List.getElem?_toArray]
    exact hj
  · intro v' w' h1 h2 h3 _
    refine h v' w' ?_ ((World.grownBy_alloc w _ _).trans h2) (fun e => by have := (h3.1 e).2; omega)
    unfold ownsCl
    rw [flatC_append, List.length_append]
    exact h1
end
end Go.Proofs.YtcbcknfhblamfaaGreatDoor
