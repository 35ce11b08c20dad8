/- Slices of rows that the call owns: appended to, sorted. · slices.ContainsFunc, slices.Contains at events and rows. -/
import Derived.Test.YtafdigdopeahdaaGreatDoorProg
import Derived.Test.YtafdigdopeahdaaGreatDoorG28
import Derived.Test.YtafdigdopeahdaaGreatDoorG21
import Derived.Maps.AppendAt
import Derived.Test.YtafdigdopeahdaaGreatDoorG27
import Derived.Laws.StructEq
namespace Go.Proofs.YtafdigdopeahdaaGreatDoor
open Go.RowKit Go.Shelf

/-- Rows' cells, one behind the other. -/
def flatC (l : List Cell) : List Value := l.flatMap cellVs
theorem flatC_length : ∀ l : List Cell, (flatC l).length = l.length * 4
  | [] => rfl
  | c :: l => by
    have h : flatC (c :: l) = cellVs c ++ flatC l := rfl
    rw [h, List.length_append, flatC_length l]
    simp [cellVs]; omega
theorem flatC_append (l m : List Cell) : flatC (l ++ m) = flatC l ++ flatC m := List.flatMap_append
theorem flatC_get : ∀ (l : List Cell) (t : Nat), t < l.length * 4 → (flatC l)[t]? = some ((cellVs (l[t / 4]!))[t % 4]!)
  | [], t, h => by simp at h
  | c :: l, t, h => by
    have e : flatC (c :: l) = cellVs c ++ flatC l := rfl
    rw [e]
    have hl : (cellVs c).length = 4 := rfl
    by_cases h4 : t < 4
    · rw [List.getElem?_append_left (by rw [hl]; exact h4)]
      have h0 : t / 4 = 0 := by omega
      have h1 : t % 4 = t := by omega
      rw [h0, h1, List.getElem?_eq_getElem (by rw [hl]; exact h4)]
      simp [hl, h4]
    · rw [List.getElem?_append_right (by rw [hl]; omega), hl]
      have hlt : t - 4 < l.length * 4 := by simp at h; omega
      rw [flatC_get l (t - 4) hlt]
      have h0 : t / 4 = (t - 4) / 4 + 1 := by omega
      have h1 : t % 4 = (t - 4) % 4 := by omega
      rw [h0, h1]
      simp
theorem flatK_get (l : List Cell) (t : Nat) (h : t < l.length * 4) : (Go.Sort.flatK cellVs 4 l.toArray)[t]? = (flatC l)[t]? := by
  rw [flatC_get l t h]
  have h2 := Go.Sort.get_flatK cellVs 4 l.toArray t (by simpa using h)
  have hs : t < (Go.Sort.flatK cellVs 4 l.toArray).size := by simpa using h
  rw [getElem!_pos _ t hs] at h2
  rw [Array.getElem?_eq_getElem hs, h2]
  simp
/-- A slice of rows of the call's own. -/
def ownsCl (w : World) (base : Nat) (v : Value) (l : List Cell) : Prop := w.ownsRow base 45 4 v l.length (flatC l)
theorem ownsCl_nil (w : World) (base : Nat) : ownsCl w base (.slice none 0 0) [] := ⟨rfl, .inl ⟨rfl, rfl⟩⟩
theorem infoC : (Tryz.prog.info? 45).map (fun i => (i.zero, i.size, i.bytes)) = some (some (.agg (cellA zeroC)), 4, 64) := by kernel_rfl
theorem ownsCl.kept {w w' : World} {base : Nat} {v : Value} {l : List Cell} {row : Option Nat} (h : ownsCl w base v l) (hg : w.grownBy w' row) (hne : ∀ g, v.ownBlock = some g → some g ≠ row) : ownsCl w' base v l := by
  obtain ⟨h1, ⟨rfl, h2⟩ | ⟨g, cap, cur, rfl, hb, hh, h3⟩⟩ := h
  · exact ⟨h1, .inl ⟨rfl, h2⟩⟩
  · exact ⟨h1, .inr ⟨g, cap, cur, rfl, hb, (hg.block g (lt_of_heap hh) (hne g rfl)).trans hh, h3⟩⟩
theorem ownsCl.base {w : World} {base : Nat} {v : Value} {l : List Cell} (h : ownsCl w base v l) {g : Nat} (hg : v.ownBlock = some g) : base ≤ g ∧ g < w.heap.size := by
  obtain ⟨h1, ⟨rfl, h2⟩ | ⟨g', cap, cur, rfl, hb, hh, h3⟩⟩ := h
  · simp [Value.ownBlock] at hg
  · simp only [Value.ownBlock, Option.some.injEq] at hg
    subst hg
    exact ⟨hb, lt_of_heap hh⟩
theorem ownsCl.low {w : World} {base b : Nat} {v : Value} {l : List Cell} (h : ownsCl w base v l) (hb : b ≤ base) : ownsCl w b v l := by
  obtain ⟨h1, h2 | ⟨g, cap, cur, hv, hb', h3⟩⟩ := h
  · exact ⟨h1, .inl h2⟩
  · exact ⟨h1, .inr ⟨g, cap, cur, hv, Nat.le_trans hb hb', h3⟩⟩
/-- A slice of rows, its cells. -/
theorem ownsCl_form {w : World} {base : Nat} {v : Value} {l : List Cell} (h : ownsCl w base v l) (hl : l ≠ []) :
    ∃ g cap cur, v = .slice (some ⟨g, 0, none⟩) l.length cap ∧ base ≤ g ∧ w.heap[g]? = some (.cells cur 45 (0, 0)) ∧ l.length ≤ cap ∧ cap ≤ maxLen ∧ cur.size = cap * 4 ∧ cur.toList.take (l.length * 4) = flatC l := by
  obtain ⟨_, ⟨rfl, h0⟩ | ⟨g, cap, cur, rfl, hb, hh, hn, hc, hsz, hx⟩⟩ := h
  · exact absurd (List.length_eq_zero_iff.1 h0) hl
  · exact ⟨g, cap, cur, rfl, hb, hh, hn, hc, hsz, hx⟩
theorem row_cell {w : World} {g : Nat} {cur : Array Value} {l : List Cell} (hh : w.heap[g]? = some (.cells cur 45 (0, 0))) (hx : cur.toList.take (l.length * 4) = flatC l) (t : Nat) (ht : t < l.length * 4) :
    w.cell? ⟨g, t, none⟩ = some ((cellVs (l[t / 4]!))[t % 4]!) := by
  have h1 : (cur.toList.take (l.length * 4))[t]? = (flatC l)[t]? := by rw [hx]
  rw [List.getElem?_take_of_lt ht, flatC_get l t ht, Array.getElem?_toList] at h1
  rw [cell_in, hh]
  simp [cellIn, h1]
theorem holdsC {w : World} {g : Nat} {cur : Array Value} {l : List Cell} (hh : w.heap[g]? = some (.cells cur 45 (0, 0))) (hx : cur.toList.take (l.length * 4) = flatC l) : Go.Sort.HoldsK cellVs 4 w g 0 l.toArray := by
  intro t ht
  have ht' : t < l.length * 4 := by simpa using ht
  refine ⟨?_, by simp [World.frozen?, hh]⟩
  rw [Nat.zero_add, row_cell hh hx t ht', Go.Sort.get_flatK _ _ _ _ (by simpa using ht')]
  simp
theorem heap_sortedC {w : World} {g n : Nat} {os : Array Obj} {cur : Array Value} {e : TypeId} {fr : Nat × Nat} (d : Array Cell) (hb : w.heap[g]? = some (.cells cur e fr)) :
    (sortWorldK cellVs 4 w g 0 n d os).heap[g]? = some (.cells (Go.Sort.putCells id 0 (Go.Sort.flatK cellVs 4 d) cur) e fr) := by
  have hg : g < w.heap.size := (Array.getElem?_eq_some_iff.1 hb).1
  unfold sortWorldK Go.Sort.putRowK
  rw [Go.Sort.heap_grow_old _ _ (by simpa using hg)]
  simp [Go.Sort.putRow, Go.Sort.mapBlock, Go.Sort.ahead, Array.getElem?_modify, hb, Go.Sort.onCells]
theorem grownBy_sortedC {w : World} {g n : Nat} {os : Array Obj} (d : Array Cell) : w.grownBy (sortWorldK cellVs 4 w g 0 n d os) (some g) := by
  unfold sortWorldK Go.Sort.putRowK
  refine ⟨rfl, rfl, rfl, by simp, fun k hk hne => ?_⟩
  rw [Go.Sort.heap_grow_old _ _ (by simpa using hk)]
  have : g ≠ k := fun e => hne (by rw [e])
  simp [Go.Sort.putRow, Go.Sort.mapBlock, Go.Sort.ahead, Array.getElem?_modify, this]
theorem take_putC (cur : Array Value) (l : List Cell) (h : l.length * 4 ≤ cur.size) : (Go.Sort.putCells id 0 (Go.Sort.flatK cellVs 4 l.toArray) cur).toList.take (l.length * 4) = flatC l := by
  apply List.ext_getElem?
  intro j
  by_cases hj : j < l.length * 4
  · rw [List.getElem?_take_of_lt hj, Array.getElem?_toList, ← flatK_get l j hj]
    have hs : j < (Go.Sort.flatK cellVs 4 l.toArray).size := by simpa using hj
    rw [Array.getElem?_eq_getElem hs]
    simp [Go.Sort.putCells, hj, show j < cur.size by omega]
  · rw [List.getElem?_take_eq_none (by omega), List.getElem?_eq_none (by rw [flatC_length]; omega)]
theorem ownsCl_sorted {w : World} {base g cap n : Nat} {os : Array Obj} {cur : Array Value} {l m : List Cell} (hl : m.length = l.length) (hbase : base ≤ g) (hb : w.heap[g]? = some (.cells cur 45 (0, 0)))
    (h1 : l.length ≤ cap) (h2 : cap ≤ maxLen) (h3 : cur.size = cap * 4) : ownsCl (sortWorldK cellVs 4 w g 0 n m.toArray os) base (.slice (some ⟨g, 0, none⟩) l.length cap) m :=
  ⟨flatC_length m, .inr ⟨g, cap, _, by rw [hl], hbase, heap_sortedC _ hb, by omega, h2, by simp [Go.Sort.putCells, h3], take_putC cur m (by omega)⟩⟩
section
variable {ops : Array Oper} {rest : List Oper} {o : Oper} {a : Act} {w : World} {Q : Exit → Act → World → Prop}
/-- 'append(v, c)'. -/
theorem append_cell (base : Nat) (v : Value) (l : List Cell) (c : Cell) (s x : Operand) (cp : Nat)
    (ho : o.op = .call { callee := .builtin .append, args := #[s, x], argTypes := #[43, 43] }) (hgd : o.guard = none) (hs : a.eval s = v)
    (hx : a.eval x = .slice (some ⟨w.heap.size, 0, none⟩) 1 cp) (hown : ownsCl w base v l) (hlen : l.length ≤ 1099511627776) (hbase : base ≤ w.heap.size)
    (h : ∀ v' w', ownsCl w' base v' (l ++ [c]) → w.grownBy w' v.ownBlock → v' ≠ .slice none 0 0 → wpList Tryz.prog ops Q rest (a.put o.dst v') w') :
    wpList Tryz.prog ops Q (o :: rest) a (w.alloc (.cells #[.string c.table, .string c.row, .string c.subject, .string c.value] 45)) := by
  obtain ⟨i0, hi, hz0, hz1, hz2⟩ := info_parts infoC
  refine wpList_append_own_at _ hgd s x 43 ho base 45 i0 (.agg (cellA zeroC)) 4 64 Tryz.underlying43 hi hz0 hz1 hz2 rfl (by decide) v l.length (flatC l) hs (World.ownsRow.alloc hown _)
    ⟨w.heap.size, 0, none⟩ 1 cp (cellVs c) hx rfl ?_ (by intro u hu; simp [cellVs] at hu; rcases hu with rfl | rfl | rfl | rfl <;> rfl) (by unfold maxLen; omega) (by omega) (by simp; omega) ?_
  · intro j u hj
    have hadd : (⟨w.heap.size, 0, none⟩ : Addr).add j = ⟨w.heap.size, j, none⟩ := by unfold Addr.add; split <;> simp_all
    rw [hadd, World.cell?_alloc_new, show #[Value.string c.table, .string c.row, .string c.subject, .string c.value] = (cellVs c).toArray from rfl, List.getElem?_toArray]
    exact hj
  · intro v' w' h1 h2 h3 _
    refine h v' w' ?_ ((World.grownBy_alloc w _ _).trans h2) (fun e => by have := (h3.1 e).2; omega)
    unfold ownsCl
    rw [flatC_append, List.length_append]
    exact h1
end
end Go.Proofs.YtafdigdopeahdaaGreatDoor
namespace Go.Proofs.YtafdigdopeahdaaGreatDoor
open Go.RowKit Go.Shelf Go.Lib

theorem isAggE (w : World) : (isAgg 40).run Tryz.prog w = .ok true w := by kernel_rfl
theorem sizeOfE (w : World) : (Go.sizeOf 40).run Tryz.prog w = .ok 5 w := by kernel_rfl
set_option maxRecDepth 100000 in
theorem idxE_none (q : Option Addr) (f : Value) (cp : Nat) (w : World) : Calls Tryz.prog 47 #[.slice q 0 cp, f] w fun e w' => e = .returned (.int .i64 (-1)) ∧ w' = w := by
  go_enter Tryz.func47, Tryz.ntmps47
  go_wp2
  refine wp_loop_rounds 1 ?_
  rw [rounds_succ]
  go_wp2_with fail
  go_ret
  exact ⟨rfl, rfl⟩
set_option maxRecDepth 100000 in
theorem anyE_none (q : Option Addr) (f : Value) (cp : Nat) (w : World) : Calls Tryz.prog 27 #[.slice q 0 cp, f] w fun e w' => e = .returned (.bool false) ∧ w' = w := by
  go_enter Tryz.func27, Tryz.ntmps27
  go_wp2_with fail
  refine (idxE_none _ _ _ _).mono ?_
  rintro _ w2 ⟨rfl, rfl⟩
  go_wp2_with fail
  go_ret
  exact ⟨rfl, rfl⟩
set_option maxRecDepth 100000 in
theorem idxF_none (q : Option Addr) (f : Value) (cp : Nat) (w : World) : Calls Tryz.prog 48 #[.slice q 0 cp, f] w fun e w' => e = .returned (.int .i64 (-1)) ∧ w' = w := by
  go_enter Tryz.func48, Tryz.ntmps48
  go_wp2
  refine wp_loop_rounds 1 ?_
  rw [rounds_succ]
  go_wp2_with fail
  go_ret
  exact ⟨rfl, rfl⟩
/-- Whether any event is such a one: of those of a kind. -/
theorem anyE_any {α : Type} [Inhabited α] (val : α → Ev) (p : α → Bool) (g : Nat) (lb : Array Value) (eg : ∀ args w, (callFunc g args).run Tryz.prog w = .ok (.enter g args) w) (q : Option Addr) (cp : Nat) (l : List α) (w : World)
    (hp : PredBelow Tryz.prog g lb (fun x => .agg (evVs (val x)).toArray) p w) (hl : l.length ≤ 9223372036854775807) (he : evsAt w q (l.map val)) :
    Calls Tryz.prog 27 #[.slice q l.length cp, .func (.func g) #[] lb] w fun e w' => e = .returned (.bool (l.any p)) ∧ ∃ x, w' = ext w x := by
  rcases he with he | ⟨b, o, rfl, hb, hc⟩
  · have : l = [] := List.map_eq_nil_iff.1 he
    subst this
    exact (anyE_none q _ cp w).mono fun e w' ⟨h1, h2⟩ => ⟨h1, by rw [h2]; exact ext_refl w⟩
  · have h := AnyQ.slices_ContainsFunc Tryz.anyEvent 5 isAggE sizeOfE (fun x => evVs (val x)) (fun _ => rfl) p g lb eg b o l.length cp l w hp (Nat.le_refl _) hl hb (fun j hj i v hi => by
      refine hc j (val l[j]!) ?_ i v hi
      rw [List.getElem?_map, List.getElem?_eq_getElem hj]
      simp [hj])
    rw [List.take_length] at h
    exact h.mono fun e w' ⟨h1, h2⟩ => ⟨h1, ext_of h2⟩
/-- Rows in memory. -/
def cellsIn (w : World) (q : Option Addr) (l : List Cell) : Prop :=
  l = [] ∨ ∃ g, q = some ⟨g, 0, none⟩ ∧ g < w.heap.size ∧ ∀ j, j < l.length → ∀ i v, (cellVs l[j]!)[i]? = some v → w.cell? ⟨g, 0 + j * 4 + i, none⟩ = some v
theorem cellsIn_of {w : World} {base : Nat} {q : Option Addr} {m cap : Nat} {l : List Cell} (h : ownsCl w base (.slice q m cap) l) : cellsIn w q l ∧ m = l.length := by
  by_cases e : l = []
  · subst e
    refine ⟨.inl rfl, ?_⟩
    obtain ⟨_, ⟨h1, _⟩ | ⟨g, cap', cur, h1, _⟩⟩ := h
    · cases h1; rfl
    · cases h1; rfl
  · obtain ⟨g, cap', cur, hv, _, hh, _, _, _, hx⟩ := ownsCl_form h e
    cases hv
    refine ⟨.inr ⟨g, rfl, lt_of_heap hh, fun j hj i v hi => ?_⟩, rfl⟩
    have hi4 : i < 4 := by have := (List.getElem?_eq_some_iff.1 hi).1; simpa [cellVs] using this
    have := row_cell hh hx (0 + j * 4 + i) (by omega)
    rw [this]
    have h0 : (0 + j * 4 + i) / 4 = j := by omega
    have h1 : (0 + j * 4 + i) % 4 = i := by omega
    rw [h0, h1, getElem!_def, hi]
def cellEq (c d : Cell) : Bool := c.table.toList == d.table.toList && c.row.toList == d.row.toList && c.subject.toList == d.subject.toList && c.value.toList == d.value.toList
theorem cellEq_iff {c d : Cell} : cellEq c d = true ↔ c = d := by
  unfold cellEq
  simp only [ByteArray.toList_eq, Bool.and_eq_true, beq_iff_eq]
  constructor
  · rintro ⟨⟨⟨h1, h2⟩, h3⟩, h4⟩
    exact cell_ext (Prod.ext h1 h2) h3 h4
  · rintro rfl; simp
theorem eqC : EqlAt Tryz.prog 45 (fun x => .agg (cellVs x).toArray) cellEq := by
  refine ⟨fun x y w => ?_, GuardAt.agg _ (by kernel_rfl)⟩
  have u9 := Tryz.underlying9
  have a9 := Tryz.isAgg9
  have z9 := Tryz.sizeOf9
  have hS : Tryz.prog.underlying 45 = some (.struct (Tryz.prog.fieldsOf 45)) := by kernel_rfl
  have hp : Tryz.prog.stoodInHeld 45 = false := by kernel_rfl
  simp only [cellVs]
  rw [run_eql_struct, show (10000 : Nat) = 9999 + 1 from rfl, run_equalIn_agg w 9999 45 _ _ hS hp]
  simp only [Program.fieldsOf, Tryz.underlying45]
  unfold cellEq
  go_simp
  by_cases h1 : x.table.toList = y.table.toList <;> by_cases h2 : x.row.toList = y.row.toList <;> by_cases h3 : x.subject.toList = y.subject.toList <;> by_cases h4 : x.value.toList = y.value.toList <;> simp [h1, h2, h3, h4]
end Go.Proofs.YtafdigdopeahdaaGreatDoor
