/- table.Compare: what the sort asks of it. -/
import Derived.Test.YtcbcknfhblamfaaGreatDoorProg
import Derived.Test.YtcbcknfhblamfaaGreatDoorCmp
import Derived.Test.YtcbcknfhblamfaaGreatDoorShelfT
namespace Go.Proofs.YtcbcknfhblamfaaGreatDoor
open Go.RowKit Go.Shelf

theorem wp_region_tailN {P : Program} {id : Nat} {Q : Exit → Act → World → Prop} {a : Act} {w : World} {l : List Oper} (n : Nat) (hm : P.follows .mixedOrders = true) (hB : tailB 0 n l = true)
    (h : wpQuiet P l.toArray (fun w' => ∃ k, w' = w.drewN k) (fun a' => ∀ w', (∃ k, w' = w.drewN k) → wpList P l.toArray Q (l.drop n) a' w') (l.take n) a) : (Code.region id l.toArray true).wp P Q a w := by
  refine wp_region_any hm ?_
  have := wpAny_of_parts (P := P) (C := fun w' => ∃ k, w' = w.drewN k) (w := { w with drawn := w.drawn + 1 }) hB ⟨1, rfl⟩ (fun i o hi => absurd hi (Nat.not_lt_zero i)) 0 0 a rfl (by simpa using h)
  simpa [firstOf_zero] using this
theorem grow_ext {w w' : World} (h : ∃ q os, w' = Go.Sort.grow (w.drewN q) os) : ∃ x, w' = ext w x := by
  obtain ⟨q, os, rfl⟩ := h
  exact ⟨⟨os, w.drawn + q⟩, rfl⟩
set_option maxRecDepth 100000 in
set_option maxHeartbeats 1000000 in
theorem tcompare_grow (c d : Cell) (w : World) :
    Calls Tryz.prog 20 #[.agg (cellA c), .agg (cellA d)] w fun e w' => e = .returned (.int .i64 (ccmp c d)) ∧ ∃ q os, w' = Go.Sort.grow (w.drewN q) os := by
  have C1 := fun w => compare_any c.table d.table w
  have C2 := fun w => compare_any c.row d.row w
  have HE : Hid (ccmp c d = if cmpL (txt c.table) (txt d.table) = 0 then cmpL (txt c.row) (txt d.row) else cmpL (txt c.table) (txt d.table)) := Lib.hid rfl
  generalize cmpL (txt c.table) (txt d.table) = a at C1 HE
  generalize cmpL (txt c.row) (txt d.row) = b at C2 HE
  generalize ccmp c d = r at HE
  unfold cellA
  obtain ⟨t, o, s, v⟩ := c
  obtain ⟨t', o', s', v'⟩ := d
  dsimp only at C1 C2 ⊢
  go_enter Tryz.func20, Tryz.ntmps20
  go_wp2_with fail
  have H0 : Hid ((w.alloc (.cells #[.string t, .string o, .string s, .string v] 44)).heap[w.heap.size]? = some (.cells (cellA ⟨t, o, s, v⟩) 44 (0, 0))) := Lib.hid (heap_alloc_at _ _)
  have e0 : (w.alloc (.cells #[.string t, .string o, .string s, .string v] 44)).heap.size = w.heap.size + 1 := by simp
  have X0 : Hid (w.alloc (.cells #[.string t, .string o, .string s, .string v] 44) = Go.Sort.grow w #[.cells #[.string t, .string o, .string s, .string v] 44 (0, 0)]) := Lib.hid (Go.Sort.alloc_eq_grow _ _)
  generalize w.alloc (.cells #[.string t, .string o, .string s, .string v] 44) = w0 at H0 X0 e0 ⊢
  have H1 : Hid ((w0.alloc (.cells #[.string t', .string o', .string s', .string v'] 44)).heap[w.heap.size + 1]? = some (.cells (cellA ⟨t', o', s', v'⟩) 44 (0, 0))) := Lib.hid (by rw [← e0]; exact heap_alloc_at _ _)
  have H01 := Lib.hid ((heap_alloc_old w0 (.cells #[.string t', .string o', .string s', .string v'] 44) (lt_of_heap H0.out)).trans H0.out)
  have X1 : Hid (∃ os, w0.alloc (.cells #[.string t', .string o', .string s', .string v'] 44) = Go.Sort.grow w os) := Lib.hid ⟨_, by rw [Go.Sort.alloc_eq_grow, X0.out, Go.Sort.grow_grow]⟩
  generalize w0.alloc (.cells #[.string t', .string o', .string s', .string v'] 44) = w1 at H1 H01 X1 ⊢
  clear H0 X0 e0
  obtain ⟨c0, c1, c2, c3⟩ := cell_cells H01.out
  obtain ⟨d0, d1, d2, d3⟩ := cell_cells H1.out
  have lw1 := lt_of_heap H1.out
  dsimp only at c0 c1 c2 c3 d0 d1 d2 d3
  refine wp_region_tailN 10 (by kernel_rfl) (by kernel_rfl) ?_
  simp only [List.take_succ_cons, List.take_zero, List.drop_succ_cons, List.drop_zero]
  iterate 5 (go_big_quiet_step ((go_at_call 33; refine (C1 _).mono ?_; rintro _ _ ⟨rfl, rfl⟩; exact ⟨rfl, ⟨_, rfl⟩⟩)))
  repeat (go_big_quiet_step ((go_at_call 33; refine (C2 _).mono ?_; rintro _ _ ⟨rfl, rfl⟩; exact ⟨rfl, ⟨_, rfl⟩⟩)))
  refine wpQuiet_nil ?_
  rintro _ ⟨x, rfl⟩
  have X2 : Hid (∃ q os, (w1.drewN x).alloc (.cells #[.int .i64 a, .int .i64 b] 3) = Go.Sort.grow (w.drewN q) os) := Lib.hid (by
    obtain ⟨os, e⟩ := X1.out
    refine ⟨x, os ++ #[.cells #[.int .i64 a, .int .i64 b] 3 (0, 0)], ?_⟩
    rw [Go.Sort.alloc_eq_grow, e]
    show Go.Sort.grow (Go.Sort.grow (w.drewN x) os) _ = _
    rw [Go.Sort.grow_grow])
  have HS := heap_alloc_at (w1.drewN x) (.cells #[.int .i64 a, .int .i64 b] 3)
  generalize w1.drewN x = w2 at X2 HS ⊢
  clear H1 H01 X1 c0 c1 c2 c3 d0 d1 d2 d3 lw1
  go_wp2_with fail
  refine (or_any a b _ _ HS).mono ?_
  rintro _ w3 ⟨rfl, rfl⟩
  rw [← HE.out]
  clear HS
  go_wp2_with fail
  go_ret
  exact ⟨rfl, X2.out⟩

/-! ### What the sort asks -/
theorem isAggC (w : World) : (isAgg 44).run Tryz.prog w = .ok true w := by kernel_rfl
theorem sizeOfC (w : World) : (Go.sizeOf 44).run Tryz.prog w = .ok 4 w := by kernel_rfl
theorem ltOf_ccmp (c d : Cell) : ltOf ccmp c d = kless (ck c) (ck d) := by
  unfold ltOf ccmp
  rw [Bool.eq_iff_iff, decide_eq_true_eq]
  exact kcmp_neg
theorem swoC : Go.Sort.SWO (ltOf ccmp) where
  irrefl x := by rw [ltOf_ccmp]; exact kless_irrefl _
  trans x y z h1 h2 := by rw [ltOf_ccmp] at *; exact kless_trans h1 h2
  ntrans x y z h1 h2 := by
    rw [ltOf_ccmp] at *
    rw [← Bool.not_eq_true]
    intro h3
    by_cases e : kless (ck y) (ck x) = true
    · have := kless_trans e h3
      rw [h2] at this; cases this
    · have e' : ck x = ck y := kless_total h1 (by simpa using e)
      rw [e'] at h3
      rw [h2] at h3; cases h3
theorem cmpLaysC (blk off size : Nat) (w : World) : CmpLays Tryz.prog 20 #[] cellVs 4 ccmp blk off size w :=
  fun _ _ _ _ c d => tcompare_grow c d _
theorem sort_cells (blk off cap : Nat) (d : Array Cell) (w : World) (hH : Go.Sort.HoldsK cellVs 4 w blk off d) (hblk : blk < w.heap.size) (hsz : d.size < 4611686018427387904) :
    Calls Tryz.prog 19 #[.slice (some ⟨blk, off, none⟩) d.size cap, .func (.func 20) #[] #[]] w fun e w' =>
      e = .returned (.tuple #[]) ∧ ∃ d' n os, Go.Sort.PermIn 0 d.size d d' ∧ Go.Sort.SortedIn (ltOf ccmp) 0 d.size d' ∧ w' = sortWorldK cellVs 4 w blk off n d' os :=
  AnyQ.slices_SortFunc Tryz.sortCells 4 isAggC sizeOfC cellVs (fun _ => rfl) (fun x v hv => by simp [cellVs] at hv; rcases hv with rfl | rfl | rfl | rfl <;> rfl) ccmp swoC 20 #[] blk off cap d w (enters_of Tryz.func20 (by kernel_rfl) rfl) (cmpLaysC blk off d.size w) hH hblk hsz
theorem sort_none (p : Option Addr) (cap : Nat) (fv : Value) (w : World) :
    Calls Tryz.prog 19 #[.slice p 0 cap, fv] w fun e w' => e = .returned (.tuple #[]) ∧ w' = w :=
  AnyF.slices_SortFunc_none Tryz.sortCells p cap fv w
end Go.Proofs.YtcbcknfhblamfaaGreatDoor
