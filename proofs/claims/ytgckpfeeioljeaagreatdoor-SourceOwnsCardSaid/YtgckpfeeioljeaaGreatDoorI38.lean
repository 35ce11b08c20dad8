/- SourceOwns's closure (the walk). -/
import Derived.Test.YtgckpfeeioljeaaGreatDoorProg
import Derived.Test.YtgckpfeeioljeaaGreatDoorI37
import Derived.Test.YtgckpfeeioljeaaGreatDoorInv
namespace Go.Proofs.YtgckpfeeioljeaaGreatDoor
open Go.RowKit Go.Shelf Go.Lib

/-- The same place in a table. -/
def atB (d c : Cell) : Bool := (c.table.toList == d.table.toList) && (c.row.toList == d.row.toList)
theorem atB_iff (d c : Cell) : atB d c = true ↔ ck c = ck d := by
  unfold atB ck
  rw [Bool.and_eq_true, ByteArray.toList_eq, ByteArray.toList_eq, ByteArray.toList_eq, ByteArray.toList_eq, beq_iff_eq, beq_iff_eq, Prod.mk.injEq]
  exact Iff.rfl
/-- What the closure has captured: the rows, the number; and the row that stands there. -/
structure CapC (w : World) (lb ib g n cap i : Nat) (x : Cell) : Prop where
  hl : lb < w.heap.size
  hi : ib < w.heap.size
  hg : g < w.heap.size
  cl : w.cell? ⟨lb, 0, none⟩ = some (.slice (some ⟨g, 0, none⟩) n cap)
  ci : w.cell? ⟨ib, 0, none⟩ = some (.int .i64 i)
  lt : i < n
  r0 : w.cell? ⟨g, i * 4, none⟩ = some (.string x.table)
  r1 : w.cell? ⟨g, i * 4 + 1, none⟩ = some (.string x.row)
  r2 : w.cell? ⟨g, i * 4 + 2, none⟩ = some (.string x.subject)
theorem CapC.ext {w w' : World} {lb ib g n cap i : Nat} {x : Cell} (h : CapC w lb ib g n cap i x) (hx : ∃ y, w' = Go.Proofs.YtgckpfeeioljeaaGreatDoor.ext w y) : CapC w' lb ib g n cap i x := by
  have hb := ext_iff.1 hx
  exact ⟨Nat.lt_of_lt_of_le h.hl hb.size, Nat.lt_of_lt_of_le h.hi hb.size, Nat.lt_of_lt_of_le h.hg hb.size, cell_below (p := ⟨lb, 0, none⟩) hb h.hl h.cl, cell_below (p := ⟨ib, 0, none⟩) hb h.hi h.ci, h.lt, cell_below (p := ⟨g, _, none⟩) hb h.hg h.r0, cell_below (p := ⟨g, _, none⟩) hb h.hg h.r1, cell_below (p := ⟨g, _, none⟩) hb h.hg h.r2⟩
set_option maxRecDepth 100000 in
set_option maxHeartbeats 1000000 in
theorem own1_any (c : Cell) (w : World) (lb ib g n cap i : Nat) (x : Cell) (h : CapC w lb ib g n cap i x) :
    Calls Tryz.prog 26 #[.agg (cellVs c).toArray, .pointer (some ⟨lb, 0, none⟩), .pointer (some ⟨ib, 0, none⟩)] w (Res (atB x c) w) := by
  obtain ⟨c1, c2, c3, c4⟩ := c
  have hX := Lib.hid (h.ext (ext_alloc (.cells #[.string c1, .string c2, .string c3, .string c4] 43) (ext_refl w)))
  have B1 := Lib.hid (ext_alloc (.cells #[.string c1, .string c2, .string c3, .string c4] 43) (ext_refl w))
  have H1 := Lib.hid (heap_alloc_at w (.cells #[.string c1, .string c2, .string c3, .string c4] 43))
  unfold cellVs atB
  dsimp only
  clear h
  cases ht : (c1.toList == x.table.toList)
  all_goals
    go_enter Tryz.func26, Tryz.ntmps26
    go_wp2_with fail
    generalize w.alloc (.cells #[.string c1, .string c2, .string c3, .string c4] 43) = w1 at hX B1 H1 ⊢
    obtain ⟨d0, d1, d2, d3⟩ := cell_cells (c := ⟨c1, c2, c3, c4⟩) H1.out
    have k0 := hX.out.hl
    have k1 := hX.out.hi
    have k2 := hX.out.hg
    have k3 := hX.out.cl
    have k4 := hX.out.ci
    have k5 := hX.out.r0
    have k6 := hX.out.r1
    have k7 : (i : Int) < n := by have := hX.out.lt; omega
    have k8 := lt_of_heap H1.out
    dsimp only at d0 d1 d2 d3
    refine wp_region_ext (by kernel_rfl) (by kernel_rfl) ?_
    repeat (go_big_quiet_step (fail))
    refine wpQuiet_nil ?_
    rintro _ ⟨y, rfl⟩
    have B2 := Lib.hid (ext_trans B1.out ⟨y, rfl⟩)
    generalize ext w1 y = w2 at B2 ⊢
    go_wp2_with fail
    go_ret
    exact ⟨rfl, B2.out⟩
end Go.Proofs.YtgckpfeeioljeaaGreatDoor
