/- table.Compare: what the sort asks of it. · Slices of rows that the call owns: appended to, sorted. · slices.ContainsFunc, slices.Contains at events and rows. -/
import Derived.Test.YtgckpfeeioljeaaGreatDoorProg
import Derived.Test.YtgckpfeeioljeaaGreatDoorG4
import Derived.Test.YtgckpfeeioljeaaGreatDoorShelfT
import Derived.Test.YtgckpfeeioljeaaGreatDoorG17
import Derived.Maps.AppendAt
import Derived.Test.YtgckpfeeioljeaaGreatDoorG21
import Derived.Laws.StructEq
namespace Go.Proofs.YtgckpfeeioljeaaGreatDoor
open Go.RowKit Go.Shelf

theorem wp_region_tailN {P : Program} {id : Nat} {Q : Exit → Act → World → Prop} {a : Act} {w : World} {l : List Oper} (n : Nat) (hm : P.follows .mixedOrders = true) (hB : tailB 0 n l = true)
    (h : wpQuiet P l.toArray (fun w' => ∃ k, w' = w.drewN k) (fun a' => ∀ w', (∃ k, w' = w.drewN k) → wpList P l.toArray Q (l.drop n) a' w') (l.take n) a) : (Code.region id l.toArray true).wp P Q a w := by
  refine wp_region_any hm ?_
  have := wpAny_of_parts (P := P) (C := fun w' => ∃ k, w' = w.drewN k) (w := { w with drawn := w.drawn + 1 }) hB ⟨1, rfl⟩ (fun i o hi => absurd hi (Nat.not_lt_zero i)) 0 0 a rfl (by simpa using h)
  simpa [firstOf_zero] using this
theorem grow_ext {w w' : World} (h : ∃ q os, w' = Go.Sort.grow (w.drewN q) os) : ∃ x, w' = ext w x := by
  obtain ⟨q, os, rfl⟩ := h
  exact ⟨⟨os, w.drawn + q⟩, rfl⟩
set_option maxRecDepth 100000 in
set_option maxHeartbeats 1000000 in
theorem tcompare_grow (c d : Cell) (w : World) :
    Calls Tryz.prog 79 #[.agg (cellA c), .agg (cellA d)] w fun e w' => e = .returned (.int .i64 (ccmp c d)) ∧ ∃ q os, w' = Go.Sort.grow (w.drewN q) os := by
  have C1 := fun w => compare_any c.table d.table w
  have C2 := fun w => compare_any c.row d.row w
  have HE : Hid (ccmp c d = if cmpL (txt c.table) (txt d.table) = 0 then cmpL (txt c.row) (txt d.row) else cmpL (txt c.table) (txt d.table)) := Lib.hid rfl
  generalize cmpL (txt c.table) (txt d.table) = a at C1 HE
  generalize cmpL (txt c.row) (txt d.row) = b at C2 HE
  generalize ccmp c d = r at HE
  unfold cellA
  obtain ⟨t, o, s, v⟩ := c
  obtain ⟨t', o', s', v'⟩ := d
  dsimp only at C1 C2 ⊢
  go_enter Tryz.func79, Tryz.ntmps79
  go_wp2_with fail
  have H0 : Hid ((w.alloc (.cells #[.string t, .string o, .string s, .string v] 43)).heap[w.heap.size]? = some (.cells (cellA ⟨t, o, s, v⟩) 43 (0, 0))) := Lib.hid (heap_alloc_at _ _)
  have e0 : (w.alloc (.cells #[.string t, .string o, .string s, .string v] 43)).heap.size = w.heap.size + 1 := by simp
  have X0 : Hid (w.alloc (.cells #[.string t, .string o, .string s, .string v] 43) = Go.Sort.grow w #[.cells #[.string t, .string o, .string s, .string v] 43 (0, 0)]) := Lib.hid (Go.Sort.alloc_eq_grow _ _)
  generalize w.alloc (.cells #[.string t, .string o, .string s, .string v] 43) = w0 at H0 X0 e0 ⊢
  have H1 : Hid ((w0.alloc (.cells #[.string t', .string o', .string s', .string v'] 43)).heap[w.heap.size + 1]? = some (.cells (cellA ⟨t', o', s', v'⟩) 43 (0, 0))) := Lib.hid (by rw [← e0]; exact heap_alloc_at _ _)
  have H01 := Lib.hid ((heap_alloc_old w0 (.cells #[.string t', .string o', .string s', .string v'] 43) (lt_of_heap H0.out)).trans H0.out)
  have X1 : Hid (∃ os, w0.alloc (.cells #[.string t', .string o', .string s', .string v'] 43) = Go.Sort.grow w os) := Lib.hid ⟨_, by rw [Go.Sort.alloc_eq_grow, X0.out, Go.Sort.grow_grow]⟩
  generalize w0.alloc (.cells #[.string t', .string o', .string s', .string v'] 43) = w1 at H1 H01 X1 ⊢
  clear H0 X0 e0
  obtain ⟨c0, c1, c2, c3⟩ := cell_cells H01.out
  obtain ⟨d0, d1, d2, d3⟩ := cell_cells H1.out
  have lw1 := lt_of_heap H1.out
  dsimp only at c0 c1 c2 c3 d0 d1 d2 d3
  refine wp_region_tailN 10 (by kernel_rfl) (by kernel_rfl) ?_
  simp only [List.take_succ_cons, List.take_zero, List.drop_succ_cons, List.drop_zero]
  iterate 5 (go_big_quiet_step ((go_at_call 99; refine (C1 _).mono ?_; rintro _ _ ⟨rfl, rfl⟩; exact ⟨rfl, ⟨_, rfl⟩⟩)))
  repeat (go_big_quiet_step ((go_at_call 99; refine (C2 _).mono ?_; rintro _ _ ⟨rfl, rfl⟩; exact ⟨rfl, ⟨_, rfl⟩⟩)))
  refine wpQuiet_nil ?_
  rintro _ ⟨x, rfl⟩
  have X2 : Hid (∃ q os, (w1.drewN x).alloc (.cells #[.int .i64 a, .int .i64 b] 3) = Go.Sort.grow (w.drewN q) os) := Lib.hid (by
    obtain ⟨os, e⟩ := X1.out
    refine ⟨x, os ++ #[.cells #[.int .i64 a, .int .i64 b] 3 (0, 0)], ?_⟩
    rw [Go.Sort.alloc_eq_grow, e]
    show Go.Sort.grow (Go.Sort.grow (w.drewN x) os) _ = _
    rw [Go.Sort.grow_grow])
  have HS := heap_alloc_at (w1.drewN x) (.cells #[.int .i64 a, .int .i64 b] 3)
  generalize w1.drewN x = w2 at X2 HS ⊢
  clear H1 H01 X1 c0 c1 c2 c3 d0 d1 d2 d3 lw1
  go_wp2_with fail
  refine (or_any a b _ _ HS).mono ?_
  rintro _ w3 ⟨rfl, rfl⟩
  rw [← HE.out]
  clear HS
  go_wp2_with fail
  go_ret
  exact ⟨rfl, X2.out⟩

/-! ### What the sort asks -/
theorem isAggC (w : World) : (isAgg 43).run Tryz.prog w = .ok true w := by kernel_rfl
theorem sizeOfC (w : World) : (Go.sizeOf 43).run Tryz.prog w = .ok 4 w := by kernel_rfl
theorem ltOf_ccmp (c d : Cell) : ltOf ccmp c d = kless (ck c) (ck d) := by
  unfold ltOf ccmp
  rw [Bool.eq_iff_iff, decide_eq_true_eq]
  exact kcmp_neg
theorem swoC : Go.Sort.SWO (ltOf ccmp) where
  irrefl x := by rw [ltOf_ccmp]; exact kless_irrefl _
  trans x y z h1 h2 := by rw [ltOf_ccmp] at *; exact kless_trans h1 h2
  ntrans x y z h1 h2 := by
    rw [ltOf_ccmp] at *
    rw [← Bool.not_eq_true]
    intro h3
    by_cases e : kless (ck y) (ck x) = true
    · have := kless_trans e h3
      rw [h2] at this; cases this
    · have e' : ck x = ck y := kless_total h1 (by simpa using e)
      rw [e'] at h3
      rw [h2] at h3; cases h3
theorem cmpLaysC (blk off size : Nat) (w : World) : CmpLays Tryz.prog 79 #[] cellVs 4 ccmp blk off size w :=
  fun _ _ _ _ c d => tcompare_grow c d _
theorem sort_cells (blk off cap : Nat) (d : Array Cell) (w : World) (hH : Go.Sort.HoldsK cellVs 4 w blk off d) (hblk : blk < w.heap.size) (hsz : d.size < 4611686018427387904) :
    Calls Tryz.prog 78 #[.slice (some ⟨blk, off, none⟩) d.size cap, .func (.func 79) #[] #[]] w fun e w' =>
      e = .returned (.tuple #[]) ∧ ∃ d' n os, Go.Sort.PermIn 0 d.size d d' ∧ Go.Sort.SortedIn (ltOf ccmp) 0 d.size d' ∧ w' = sortWorldK cellVs 4 w blk off n d' os :=
  AnyQ.slices_SortFunc Tryz.sortCells 4 isAggC sizeOfC cellVs (fun _ => rfl) (fun x v hv => by simp [cellVs] at hv; rcases hv with rfl | rfl | rfl | rfl <;> rfl) ccmp swoC 79 #[] blk off cap d w (enters_of Tryz.func79 (by kernel_rfl) rfl) (cmpLaysC blk off d.size w) hH hblk hsz
theorem sort_none (p : Option Addr) (cap : Nat) (fv : Value) (w : World) :
    Calls Tryz.prog 78 #[.slice p 0 cap, fv] w fun e w' => e = .returned (.tuple #[]) ∧ w' = w :=
  AnyF.slices_SortFunc_none Tryz.sortCells p cap fv w
end Go.Proofs.YtgckpfeeioljeaaGreatDoor
namespace Go.Proofs.YtgckpfeeioljeaaGreatDoor
open Go.RowKit Go.Shelf

/-- Rows' cells, one behind the other. -/
def flatC (l : List Cell) : List Value := l.flatMap cellVs
theorem flatC_length : ∀ l : List Cell, (flatC l).length = l.length * 4
  | [] => rfl
  | c :: l => by
    have h : flatC (c :: l) = cellVs c ++ flatC l := rfl
    rw [h, List.length_append, flatC_length l]
    simp [cellVs]; omega
theorem flatC_append (l m : List Cell) : flatC (l ++ m) = flatC l ++ flatC m := List.flatMap_append
theorem flatC_get : ∀ (l : List Cell) (t : Nat), t < l.length * 4 → (flatC l)[t]? = some ((cellVs (l[t / 4]!))[t % 4]!)
  | [], t, h => by simp at h
  | c :: l, t, h => by
    have e : flatC (c :: l) = cellVs c ++ flatC l := rfl
    rw [e]
    have hl : (cellVs c).length = 4 := rfl
    by_cases h4 : t < 4
    · rw [List.getElem?_append_left (by rw [hl]; exact h4)]
      have h0 : t / 4 = 0 := by omega
      have h1 : t % 4 = t := by omega
      rw [h0, h1, List.getElem?_eq_getElem (by rw [hl]; exact h4)]
      simp [hl, h4]
    · rw [List.getElem?_append_right (by rw [hl]; omega), hl]
      have hlt : t - 4 < l.length * 4 := by simp at h; omega
      rw [flatC_get l (t - 4) hlt]
      have h0 : t / 4 = (t - 4) / 4 + 1 := by omega
      have h1 : t % 4 = (t - 4) % 4 := by omega
      rw [h0, h1]
      simp
theorem flatK_get (l : List Cell) (t : Nat) (h : t < l.length * 4) : (Go.Sort.flatK cellVs 4 l.toArray)[t]? = (flatC l)[t]? := by
  rw [flatC_get l t h]
  have h2 := Go.Sort.get_flatK cellVs 4 l.toArray t (by simpa using h)
  have hs : t < (Go.Sort.flatK cellVs 4 l.toArray).size := by simpa using h
  rw [getElem!_pos _ t hs] at h2
  rw [Array.getElem?_eq_getElem hs, h2]
  simp
/-- A slice of rows of the call's own. -/
def ownsCl (w : World) (base : Nat) (v : Value) (l : List Cell) : Prop := w.ownsRow base 43 4 v l.length (flatC l)
theorem ownsCl_nil (w : World) (base : Nat) : ownsCl w base (.slice none 0 0) [] := ⟨rfl, .inl ⟨rfl, rfl⟩⟩
theorem infoC : (Tryz.prog.info? 43).map (fun i => (i.zero, i.size, i.bytes)) = some (some (.agg (cellA zeroC)), 4, 64) := by kernel_rfl
theorem ownsCl.kept {w w' : World} {base : Nat} {v : Value} {l : List Cell} {row : Option Nat} (h : ownsCl w base v l) (hg : w.grownBy w' row) (hne : ∀ g, v.ownBlock = some g → some g ≠ row) : ownsCl w' base v l := by
  obtain ⟨h1, ⟨rfl, h2⟩ | ⟨g, cap, cur, rfl, hb, hh, h3⟩⟩ := h
  · exact ⟨h1, .inl ⟨rfl, h2⟩⟩
  · exact ⟨h1, .inr ⟨g, cap, cur, rfl, hb, (hg.block g (lt_of_heap hh) (hne g rfl)).trans hh, h3⟩⟩
theorem ownsCl.base {w : World} {base : Nat} {v : Value} {l : List Cell} (h : ownsCl w base v l) {g : Nat} (hg : v.ownBlock = some g) : base ≤ g ∧ g < w.heap.size := by
  obtain ⟨h1, ⟨rfl, h2⟩ | ⟨g', cap, cur, rfl, hb, hh, h3⟩⟩ := h
  · simp [Value.ownBlock] at hg
  · simp only [Value.ownBlock, Option.some.injEq] at hg
    subst hg
    exact ⟨hb, lt_of_heap hh⟩
theorem ownsCl.low {w : World} {base b : Nat} {v : Value} {l : List Cell} (h : ownsCl w base v l) (hb : b ≤ base) : ownsCl w b v l := by
  obtain ⟨h1, h2 | ⟨g, cap, cur, hv, hb', h3⟩⟩ := h
  · exact ⟨h1, .inl h2⟩
  · exact ⟨h1, .inr ⟨g, cap, cur, hv, Nat.le_trans hb hb', h3⟩⟩
/-- A slice of rows, its cells. -/
theorem ownsCl_form {w : World} {base : Nat} {v : Value} {l : List Cell} (h : ownsCl w base v l) (hl : l ≠ []) :
    ∃ g cap cur, v = .slice (some ⟨g, 0, none⟩) l.length cap ∧ base ≤ g ∧ w.heap[g]? = some (.cells cur 43 (0, 0)) ∧ l.length ≤ cap ∧ cap ≤ maxLen ∧ cur.size = cap * 4 ∧ cur.toList.take (l.length * 4) = flatC l := by
  obtain ⟨_, ⟨rfl, h0⟩ | ⟨g, cap, cur, rfl, hb, hh, hn, hc, hsz, hx⟩⟩ := h
  · exact absurd (List.length_eq_zero_iff.1 h0) hl
  · exact ⟨g, cap, cur, rfl, hb, hh, hn, hc, hsz, hx⟩
theorem row_cell {w : World} {g : Nat} {cur : Array Value} {l : List Cell} (hh : w.heap[g]? = some (.cells cur 43 (0, 0))) (hx : cur.toList.take (l.length * 4) = flatC l) (t : Nat) (ht : t < l.length * 4) :
    w.cell? ⟨g, t, none⟩ = some ((cellVs (l[t / 4]!))[t % 4]!) := by
  have h1 : (cur.toList.take (l.length * 4))[t]? = (flatC l)[t]? := by rw [hx]
  rw [List.getElem?_take_of_lt ht, flatC_get l t ht, Array.getElem?_toList] at h1
  rw [cell_in, hh]
  simp [cellIn, h1]
theorem holdsC {w : World} {g : Nat} {cur : Array Value} {l : List Cell} (hh : w.heap[g]? = some (.cells cur 43 (0, 0))) (hx : cur.toList.take (l.length * 4) = flatC l) : Go.Sort.HoldsK cellVs 4 w g 0 l.toArray := by
  intro t ht
  have ht' : t < l.length * 4 := by simpa using ht
  refine ⟨?_, by simp [World.frozen?, hh]⟩
  rw [Nat.zero_add, row_cell hh hx t ht', Go.Sort.get_flatK _ _ _ _ (by simpa using ht')]
  simp
theorem heap_sortedC {w : World} {g n : Nat} {os : Array Obj} {cur : Array Value} {e : TypeId} {fr : Nat × Nat} (d : Array Cell) (hb : w.heap[g]? = some (.cells cur e fr)) :
    (sortWorldK cellVs 4 w g 0 n d os).heap[g]? = some (.cells (Go.Sort.putCells id 0 (Go.Sort.flatK cellVs 4 d) cur) e fr) := by
  have hg : g < w.heap.size := (Array.getElem?_eq_some_iff.1 hb).1
  unfold sortWorldK Go.Sort.putRowK
  rw [Go.Sort.heap_grow_old _ _ (by simpa using hg)]
  simp [Go.Sort.putRow, Go.Sort.mapBlock, Go.Sort.ahead, Array.getElem?_modify, hb, Go.Sort.onCells]
theorem grownBy_sortedC {w : World} {g n : Nat} {os : Array Obj} (d : Array Cell) : w.grownBy (sortWorldK cellVs 4 w g 0 n d os) (some g) := by
  unfold sortWorldK Go.Sort.putRowK
  refine ⟨rfl, rfl, rfl, by simp, fun k hk hne => ?_⟩
  rw [Go.Sort.heap_grow_old _ _ (by simpa using hk)]
  have : g ≠ k := fun e => hne (by rw [e])
  simp [Go.Sort.putRow, Go.Sort.mapBlock, Go.Sort.ahead, Array.getElem?_modify, this]
theorem take_putC (cur : Array Value) (l : List Cell) (h : l.length * 4 ≤ cur.size) : (Go.Sort.putCells id 0 (Go.Sort.flatK cellVs 4 l.toArray) cur).toList.take (l.length * 4) = flatC l := by
  apply List.ext_getElem?
  intro j
  by_cases hj : j < l.length * 4
  · rw [List.getElem?_take_of_lt hj, Array.getElem?_toList, ← flatK_get l j hj]
    have hs : j < (Go.Sort.flatK cellVs 4 l.toArray).size := by simpa using hj
    rw [Array.getElem?_eq_getElem hs]
    simp [Go.Sort.putCells, hj, show j < cur.size by omega]
  · rw [List.getElem?_take_eq_none (by omega), List.getElem?_eq_none (by rw [flatC_length]; omega)]
theorem ownsCl_sorted {w : World} {base g cap n : Nat} {os : Array Obj} {cur : Array Value} {l m : List Cell} (hl : m.length = l.length) (hbase : base ≤ g) (hb : w.heap[g]? = some (.cells cur 43 (0, 0)))
    (h1 : l.length ≤ cap) (h2 : cap ≤ maxLen) (h3 : cur.size = cap * 4) : ownsCl (sortWorldK cellVs 4 w g 0 n m.toArray os) base (.slice (some ⟨g, 0, none⟩) l.length cap) m :=
  ⟨flatC_length m, .inr ⟨g, cap, _, by rw [hl], hbase, heap_sortedC _ hb, by omega, h2, by simp [Go.Sort.putCells, h3], take_putC cur m (by omega)⟩⟩
section
variable {ops : Array Oper} {rest : List Oper} {o : Oper} {a : Act} {w : World} {Q : Exit → Act → World → Prop}
/-- 'append(v, c)'. -/
theorem append_cell (base : Nat) (v : Value) (l : List Cell) (c : Cell) (s x : Operand) (cp : Nat)
    (ho : o.op = .call { callee := .builtin .append, args := #[s, x], argTypes := #[41, 41] }) (hgd : o.guard = none) (hs : a.eval s = v)
    (hx : a.eval x = .slice (some ⟨w.heap.size, 0, none⟩) 1 cp) (hown : ownsCl w base v l) (hlen : l.length ≤ 1099511627776) (hbase : base ≤ w.heap.size)
    (h : ∀ v' w', ownsCl w' base v' (l ++ [c]) → w.grownBy w' v.ownBlock → v' ≠ .slice none 0 0 → wpList Tryz.prog ops Q rest (a.put o.dst v') w') :
    wpList Tryz.prog ops Q (o :: rest) a (w.alloc (.cells #[.string c.table, .string c.row, .string c.subject, .string c.value] 43)) := by
  obtain ⟨i0, hi, hz0, hz1, hz2⟩ := info_parts infoC
  refine wpList_append_own_at _ hgd s x 41 ho base 43 i0 (.agg (cellA zeroC)) 4 64 Tryz.underlying41 hi hz0 hz1 hz2 rfl (by decide) v l.length (flatC l) hs (World.ownsRow.alloc hown _)
    ⟨w.heap.size, 0, none⟩ 1 cp (cellVs c) hx rfl ?_ (by intro u hu; simp [cellVs] at hu; rcases hu with rfl | rfl | rfl | rfl <;> rfl) (by unfold maxLen; omega) (by omega) (by simp; omega) ?_
  · intro j u hj
    have hadd : (⟨w.heap.size, 0, none⟩ : Addr).add j = ⟨w.heap.size, j, none⟩ := by unfold Addr.add; split <;> simp_all
    rw [hadd, World.cell?_alloc_new, show #[Value.string c.table, .string c.row, .string c.subject, .string c.value] = (cellVs c).toArray from rfl, List.getElem?_toArray]
    exact hj
  · intro v' w' h1 h2 h3 _
    refine h v' w' ?_ ((World.grownBy_alloc w _ _).trans h2) (fun e => by have := (h3.1 e).2; omega)
    unfold ownsCl
    rw [flatC_append, List.length_append]
    exact h1
end
end Go.Proofs.YtgckpfeeioljeaaGreatDoor
namespace Go.Proofs.YtgckpfeeioljeaaGreatDoor
open Go.RowKit Go.Shelf Go.Lib

theorem isAggE (w : World) : (isAgg 51).run Tryz.prog w = .ok true w := by kernel_rfl
theorem sizeOfE (w : World) : (Go.sizeOf 51).run Tryz.prog w = .ok 5 w := by kernel_rfl
set_option maxRecDepth 100000 in
theorem idxE_none (q : Option Addr) (f : Value) (cp : Nat) (w : World) : Calls Tryz.prog 63 #[.slice q 0 cp, f] w fun e w' => e = .returned (.int .i64 (-1)) ∧ w' = w := by
  go_enter Tryz.func63, Tryz.ntmps63
  go_wp2
  refine wp_loop_rounds 1 ?_
  rw [rounds_succ]
  go_wp2_with fail
  go_ret
  exact ⟨rfl, rfl⟩
set_option maxRecDepth 100000 in
theorem anyE_none (q : Option Addr) (f : Value) (cp : Nat) (w : World) : Calls Tryz.prog 28 #[.slice q 0 cp, f] w fun e w' => e = .returned (.bool false) ∧ w' = w := by
  go_enter Tryz.func28, Tryz.ntmps28
  go_wp2_with fail
  refine (idxE_none _ _ _ _).mono ?_
  rintro _ w2 ⟨rfl, rfl⟩
  go_wp2_with fail
  go_ret
  exact ⟨rfl, rfl⟩
set_option maxRecDepth 100000 in
theorem idxF_none (q : Option Addr) (f : Value) (cp : Nat) (w : World) : Calls Tryz.prog 25 #[.slice q 0 cp, f] w fun e w' => e = .returned (.int .i64 (-1)) ∧ w' = w := by
  go_enter Tryz.func25, Tryz.ntmps25
  go_wp2
  refine wp_loop_rounds 1 ?_
  rw [rounds_succ]
  go_wp2_with fail
  go_ret
  exact ⟨rfl, rfl⟩
set_option maxRecDepth 100000 in
theorem anyC_none (q : Option Addr) (f : Value) (cp : Nat) (w : World) : Calls Tryz.prog 37 #[.slice q 0 cp, f] w fun e w' => e = .returned (.bool false) ∧ w' = w := by
  go_enter Tryz.func37, Tryz.ntmps37
  go_wp2_with fail
  refine (idxF_none _ _ _ _).mono ?_
  rintro _ w2 ⟨rfl, rfl⟩
  go_wp2_with fail
  go_ret
  exact ⟨rfl, rfl⟩
/-- Whether any event is such a one: of those of a kind. -/
theorem anyE_any {α : Type} [Inhabited α] (val : α → Ev) (p : α → Bool) (g : Nat) (lb : Array Value) (eg : ∀ args w, (callFunc g args).run Tryz.prog w = .ok (.enter g args) w) (q : Option Addr) (cp : Nat) (l : List α) (w : World)
    (hp : PredBelow Tryz.prog g lb (fun x => .agg (evVs (val x)).toArray) p w) (hl : l.length ≤ 9223372036854775807) (he : evsAt w q (l.map val)) :
    Calls Tryz.prog 28 #[.slice q l.length cp, .func (.func g) #[] lb] w fun e w' => e = .returned (.bool (l.any p)) ∧ ∃ x, w' = ext w x := by
  rcases he with he | ⟨b, o, rfl, hb, hc⟩
  · have : l = [] := List.map_eq_nil_iff.1 he
    subst this
    exact (anyE_none q _ cp w).mono fun e w' ⟨h1, h2⟩ => ⟨h1, by rw [h2]; exact ext_refl w⟩
  · have h := AnyQ.slices_ContainsFunc Tryz.anyEvent 5 isAggE sizeOfE (fun x => evVs (val x)) (fun _ => rfl) p g lb eg b o l.length cp l w hp (Nat.le_refl _) hl hb (fun j hj i v hi => by
      refine hc j (val l[j]!) ?_ i v hi
      rw [List.getElem?_map, List.getElem?_eq_getElem hj]
      simp [hj])
    rw [List.take_length] at h
    exact h.mono fun e w' ⟨h1, h2⟩ => ⟨h1, ext_of h2⟩
/-- Rows in memory. -/
def cellsIn (w : World) (q : Option Addr) (l : List Cell) : Prop :=
  l = [] ∨ ∃ g, q = some ⟨g, 0, none⟩ ∧ g < w.heap.size ∧ ∀ j, j < l.length → ∀ i v, (cellVs l[j]!)[i]? = some v → w.cell? ⟨g, 0 + j * 4 + i, none⟩ = some v
theorem cellsIn_of {w : World} {base : Nat} {q : Option Addr} {m cap : Nat} {l : List Cell} (h : ownsCl w base (.slice q m cap) l) : cellsIn w q l ∧ m = l.length := by
  by_cases e : l = []
  · subst e
    refine ⟨.inl rfl, ?_⟩
    obtain ⟨_, ⟨h1, _⟩ | ⟨g, cap', cur, h1, _⟩⟩ := h
    · cases h1; rfl
    · cases h1; rfl
  · obtain ⟨g, cap', cur, hv, _, hh, _, _, _, hx⟩ := ownsCl_form h e
    cases hv
    refine ⟨.inr ⟨g, rfl, lt_of_heap hh, fun j hj i v hi => ?_⟩, rfl⟩
    have hi4 : i < 4 := by have := (List.getElem?_eq_some_iff.1 hi).1; simpa [cellVs] using this
    have := row_cell hh hx (0 + j * 4 + i) (by omega)
    rw [this]
    have h0 : (0 + j * 4 + i) / 4 = j := by omega
    have h1 : (0 + j * 4 + i) % 4 = i := by omega
    rw [h0, h1, getElem!_def, hi]
theorem anyC_any (p : Cell → Bool) (g : Nat) (lb : Array Value) (eg : ∀ args w, (callFunc g args).run Tryz.prog w = .ok (.enter g args) w) (q : Option Addr) (cp : Nat) (l : List Cell) (w : World)
    (hp : PredBelow Tryz.prog g lb (fun x => .agg (cellVs x).toArray) p w) (hl : l.length ≤ 9223372036854775807) (he : cellsIn w q l) :
    Calls Tryz.prog 37 #[.slice q l.length cp, .func (.func g) #[] lb] w fun e w' => e = .returned (.bool (l.any p)) ∧ ∃ x, w' = ext w x := by
  rcases he with he | ⟨b, rfl, hb, hc⟩
  · subst he
    exact (anyC_none q _ cp w).mono fun e w' ⟨h1, h2⟩ => ⟨h1, by rw [h2]; exact ext_refl w⟩
  · have h := AnyQ.slices_ContainsFunc Tryz.anyCell 4 isAggC sizeOfC cellVs (fun _ => rfl) p g lb eg b 0 l.length cp l w hp (Nat.le_refl _) hl hb hc
    rw [List.take_length] at h
    exact h.mono fun e w' ⟨h1, h2⟩ => ⟨h1, ext_of h2⟩
def cellEq (c d : Cell) : Bool := c.table.toList == d.table.toList && c.row.toList == d.row.toList && c.subject.toList == d.subject.toList && c.value.toList == d.value.toList
theorem cellEq_iff {c d : Cell} : cellEq c d = true ↔ c = d := by
  unfold cellEq
  simp only [ByteArray.toList_eq, Bool.and_eq_true, beq_iff_eq]
  constructor
  · rintro ⟨⟨⟨h1, h2⟩, h3⟩, h4⟩
    exact cell_ext (Prod.ext h1 h2) h3 h4
  · rintro rfl; simp
theorem eqC : EqlAt Tryz.prog 43 (fun x => .agg (cellVs x).toArray) cellEq := by
  refine ⟨fun x y w => ?_, GuardAt.agg _ (by kernel_rfl)⟩
  have u9 := Tryz.underlying9
  have a9 := Tryz.isAgg9
  have z9 := Tryz.sizeOf9
  have hS : Tryz.prog.underlying 43 = some (.struct (Tryz.prog.fieldsOf 43)) := by kernel_rfl
  have hp : Tryz.prog.stoodInHeld 43 = false := by kernel_rfl
  simp only [cellVs]
  rw [run_eql_struct, show (10000 : Nat) = 9999 + 1 from rfl, run_equalIn_agg w 9999 43 _ _ hS hp]
  simp only [Program.fieldsOf, Tryz.underlying43]
  unfold cellEq
  go_simp
  by_cases h1 : x.table.toList = y.table.toList <;> by_cases h2 : x.row.toList = y.row.toList <;> by_cases h3 : x.subject.toList = y.subject.toList <;> by_cases h4 : x.value.toList = y.value.toList <;> simp [h1, h2, h3, h4]
end Go.Proofs.YtgckpfeeioljeaaGreatDoor
