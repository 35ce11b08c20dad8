/- TableLast's closures (the walks). -/
import Derived.Test.YtjmbobjifojoiaaDoorProg
import Derived.Test.YtjmbobjifojoiaaDoorFew
import Derived.Test.YtjmbobjifojoiaaDoorInv
namespace Go.Proofs.YtjmbobjifojoiaaDoor
open Go.RowKit Go.Shelf Go.Lib

/-- What the closures have captured: the slice, the number; and the event that stands there. -/
structure Cap (w : World) (lb ib g o n cap i : Nat) (x : Ev) : Prop where
  hl : lb < w.heap.size
  hi : ib < w.heap.size
  hg : g < w.heap.size
  cl : w.cell? ⟨lb, 0, none⟩ = some (.slice (some ⟨g, o, none⟩) n cap)
  ci : w.cell? ⟨ib, 0, none⟩ = some (.int .i64 i)
  lt : i < n
  ev : ∀ f v, (evVs x)[f]? = some v → w.cell? ⟨g, o + i * 5 + f, none⟩ = some v
theorem Cap.of {w w' : World} {m lb ib g o n cap i : Nat} {x : Ev} (h : Cap w lb ib g o n cap i x) (hb : Below m w w') (hm : w.heap.size ≤ m) : Cap w' lb ib g o n cap i x := by
  have hs : w.heap.size ≤ w'.heap.size := hb.size
  have hc : ∀ (p : Addr) v, p.block < w.heap.size → w.cell? p = some v → w'.cell? p = some v := fun p v hp h => cell_below hb (Nat.lt_of_lt_of_le hp hm) h
  exact ⟨Nat.lt_of_lt_of_le h.hl hs, Nat.lt_of_lt_of_le h.hi hs, Nat.lt_of_lt_of_le h.hg hs, hc _ _ h.hl h.cl, hc _ _ h.hi h.ci, h.lt, fun f v hf => hc ⟨g, o + i * 5 + f, none⟩ v h.hg (h.ev f v hf)⟩
theorem Cap.cells {w : World} {lb ib g o n cap i : Nat} {x : Ev} (h : Cap w lb ib g o n cap i x) :
    w.cell? ⟨g, o + i * 5, none⟩ = some (.int .i64 x.kind) ∧ w.cell? ⟨g, o + i * 5 + 1, none⟩ = some (.string x.subject) ∧ w.cell? ⟨g, o + i * 5 + 2, none⟩ = some (.string x.table) ∧ w.cell? ⟨g, o + i * 5 + 3, none⟩ = some (.string x.row) ∧ w.cell? ⟨g, o + i * 5 + 4, none⟩ = some (.string x.value) :=
  ⟨h.ev 0 _ rfl, h.ev 1 _ rfl, h.ev 2 _ rfl, h.ev 3 _ rfl, h.ev 4 _ rfl⟩
theorem dec_eq (a b : ByteArray) : decide (txt a = txt b) = (a.toList == b.toList) := by
  rw [ByteArray.toList_eq, ByteArray.toList_eq, Bool.eq_iff_iff, decide_eq_true_eq, beq_iff_eq]; rfl
set_option maxRecDepth 100000 in
set_option maxHeartbeats 1000000 in
theorem last4_any (c : Cell) (w : World) (lb ib g o n cap i : Nat) (x : Ev) (h : Cap w lb ib g o n cap i x) :
    Calls Tryd.prog 62 #[.agg (cellA c), .pointer (some ⟨lb, 0, none⟩), .pointer (some ⟨ib, 0, none⟩)] w (Res (decide (txt c.subject = txt x.subject)) w) := by
  obtain ⟨c1, c2, c3, c4⟩ := c
  have HE : Hid (decide (txt c3 = txt x.subject) = (c3.toList == x.subject.toList)) := Lib.hid (dec_eq _ _)
  have hX := Lib.hid ((Cap.of h ((Below.refl w.heap.size w).alloc (Nat.le_refl _) (.cells #[.string c1, .string c2, .string c3, .string c4] 81)) (Nat.le_refl _)))
  have B1 := Lib.hid (ext_alloc (.cells #[.string c1, .string c2, .string c3, .string c4] 81) (ext_refl w))
  have H1 := Lib.hid (heap_alloc_at w (.cells #[.string c1, .string c2, .string c3, .string c4] 81))
  unfold cellA
  dsimp only
  clear h
  go_enter Tryd.func62, Tryd.ntmps62
  go_wp2_with fail
  generalize w.alloc (.cells #[.string c1, .string c2, .string c3, .string c4] 81) = w1 at hX B1 H1 ⊢
  obtain ⟨e0, e1, e2, e3, e4⟩ := hX.out.cells
  obtain ⟨d0, d1, d2, d3⟩ := cell_cells (c := ⟨c1, c2, c3, c4⟩) H1.out
  have k1 := hX.out.hl
  have k2 := hX.out.hi
  have k3 := hX.out.hg
  have k4 := hX.out.cl
  have k5 := hX.out.ci
  have k6 : (i : Int) < n := by have := hX.out.lt; omega
  have k7 := lt_of_heap H1.out
  dsimp only at d0 d1 d2 d3
  refine wp_region_ext (by kernel_rfl) (by kernel_rfl) ?_
  repeat (go_big_quiet_step (fail))
  refine wpQuiet_nil ?_
  rintro _ ⟨y, rfl⟩
  have B2 := Lib.hid (ext_trans B1.out ⟨y, rfl⟩)
  generalize ext w1 y = w2 at B2 ⊢
  go_wp2_with fail
  go_ret
  exact ⟨by rw [HE.out]; rfl, B2.out⟩
set_option maxRecDepth 100000 in
set_option maxHeartbeats 2000000 in
theorem last3_any (e : Ev) (w : World) (lb ib g o n cap i : Nat) (x : Ev) (h : Cap w lb ib g o n cap i x) :
    Calls Tryd.prog 60 #[.agg (evV e), .pointer (some ⟨lb, 0, none⟩), .pointer (some ⟨ib, 0, none⟩)] w (Res (decide (e.kind = 1) && decide (txt e.subject = txt x.subject)) w) := by
  obtain ⟨k, s, t, r, v⟩ := e
  have HE : Hid ((decide (k = 1) && decide (txt s = txt x.subject)) = ((k == 1) && (s.toList == x.subject.toList))) := Lib.hid (by rw [dec_eq]; rfl)
  have hX := Lib.hid ((Cap.of h ((Below.refl w.heap.size w).alloc (Nat.le_refl _) (.cells #[.int .i64 k, .string s, .string t, .string r, .string v] 54)) (Nat.le_refl _)))
  have B1 := Lib.hid (ext_alloc (.cells #[.int .i64 k, .string s, .string t, .string r, .string v] 54) (ext_refl w))
  have H1 := Lib.hid (heap_alloc_at w (.cells #[.int .i64 k, .string s, .string t, .string r, .string v] 54))
  unfold evV
  dsimp only
  clear h
  go_enter Tryd.func60, Tryd.ntmps60
  go_wp2_with fail
  generalize w.alloc (.cells #[.int .i64 k, .string s, .string t, .string r, .string v] 54) = w1 at hX B1 H1 ⊢
  obtain ⟨e0, e1, e2, e3, e4⟩ := hX.out.cells
  obtain ⟨d0, d1, d2, d3, d4⟩ := ev_cells H1.out
  have k1 := hX.out.hl
  have k2 := hX.out.hi
  have k3 := hX.out.hg
  have k4 := hX.out.cl
  have k5 := hX.out.ci
  have k6 : (i : Int) < n := by have := hX.out.lt; omega
  have k7 := lt_of_heap H1.out
  cases q1 : (k == (1 : Int))
  all_goals
    refine wp_region_ext (by kernel_rfl) (by kernel_rfl) ?_
    repeat (go_big_quiet_step (fail))
    refine wpQuiet_nil ?_
    rintro _ ⟨y, rfl⟩
    have B2 := Lib.hid (ext_trans B1.out ⟨y, rfl⟩)
    generalize ext w1 y = w2 at B2 ⊢
    go_wp2_with fail
    go_ret
    exact ⟨by rw [HE.out]; simp [q1], B2.out⟩
set_option maxRecDepth 100000 in
set_option maxHeartbeats 2000000 in
theorem last2_any (e : Ev) (w : World) (lb ib g o n cap i : Nat) (x : Ev) (h : Cap w lb ib g o n cap i x) (hz : e.subject.size ≤ 1048576 ∧ e.table.size ≤ 1048576 ∧ e.row.size ≤ 1048576) :
    Calls Tryd.prog 59 #[.agg (evV e), .pointer (some ⟨lb, 0, none⟩), .pointer (some ⟨ib, 0, none⟩)] w (Res (decide (e.kind = 3) && decide (txt e.subject = txt x.subject) && rightE okV e) w) := by
  have RT := fun w => right_any e w hz
  obtain ⟨k, s, t, r, v⟩ := e
  have HE : Hid ((decide (k = 3) && decide (txt s = txt x.subject)) = ((k == 3) && (s.toList == x.subject.toList))) := Lib.hid (by rw [dec_eq]; rfl)
  unfold evV at RT
  dsimp only at RT ⊢
  generalize rightE okV ⟨k, s, t, r, v⟩ = ok at RT ⊢
  have hX := Lib.hid ((Cap.of h ((Below.refl w.heap.size w).alloc (Nat.le_refl _) (.cells #[.int .i64 k, .string s, .string t, .string r, .string v] 54)) (Nat.le_refl _)))
  have B1 := Lib.hid (ext_alloc (.cells #[.int .i64 k, .string s, .string t, .string r, .string v] 54) (ext_refl w))
  have H1 := Lib.hid (heap_alloc_at w (.cells #[.int .i64 k, .string s, .string t, .string r, .string v] 54))
  unfold evV
  dsimp only
  clear h
  go_enter Tryd.func59, Tryd.ntmps59
  go_wp2_with fail
  generalize w.alloc (.cells #[.int .i64 k, .string s, .string t, .string r, .string v] 54) = w1 at hX B1 H1 ⊢
  obtain ⟨e0, e1, e2, e3, e4⟩ := hX.out.cells
  obtain ⟨d0, d1, d2, d3, d4⟩ := ev_cells H1.out
  have k1 := hX.out.hl
  have k2 := hX.out.hi
  have k3 := hX.out.hg
  have k4 := hX.out.cl
  have k5 := hX.out.ci
  have k6 : (i : Int) < n := by have := hX.out.lt; omega
  have k7 := lt_of_heap H1.out
  cases q1 : (k == (3 : Int)) <;> cases q2 : (s.toList == x.subject.toList)
  all_goals
    refine wp_region_ext (by kernel_rfl) (by kernel_rfl) ?_
    repeat (go_big_quiet_step ((go_at_call 38; refine (RT _).mono ?_; rintro _ _ ⟨rfl, hx⟩; exact ⟨rfl, ext_trans ⟨_, rfl⟩ hx⟩)))
    refine wpQuiet_nil ?_
    rintro _ ⟨y, rfl⟩
    have B2 := Lib.hid (ext_trans B1.out ⟨y, rfl⟩)
    generalize ext w1 y = w2 at B2 ⊢
    go_wp2_with fail
    go_ret
    exact ⟨by rw [HE.out]; simp [q1, q2], B2.out⟩
end Go.Proofs.YtjmbobjifojoiaaDoor
