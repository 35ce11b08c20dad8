/- A reader in memory: New, At, Lost, Cells (the walks). · (*reader.Reader).Read: a record that was read, or that lacks one ahead. -/
import Derived.Test.YtafdigdopeahdaaGreatDoorProg
import Derived.Test.YtafdigdopeahdaaGreatDoorG34
import Derived.Test.YtafdigdopeahdaaGreatDoorG35
import Derived.Test.YtafdigdopeahdaaGreatDoorG37
namespace Go.Proofs.YtafdigdopeahdaaGreatDoor
open Go.RowKit Go.Shelf

abbrev HR (vb : Nat) (seq : Nat) (mark : ByteArray) (lost : Nat) : Hole := ⟨[.pointer (some ⟨vb, 0, none⟩), .int .i64 seq, .string mark], [.int .i64 lost], 91⟩
/-- A reader: D names its blocks; vb: its vault. -/
structure rdAt (w : World) (D : Blk) (rb vb n : Nat) (R : RdM) (tm : Option Nat) : Prop where
  tab : tabAt w rb (HR vb R.seq R.mark R.lost) tm n R.T
  rb_ : D rb
  tm_ : ∀ b, tm = some b → D b
  lt : ∀ i, D i → i < w.heap.size
  sq : R.seq ≤ 1048576
  lo : R.lost ≤ R.seq
def rdIn (w : World) (D : Blk) (rb vb n : Nat) (R : RdM) : Prop := ∃ tm, rdAt w D rb vb n R tm
theorem rdIn.same {w w' : World} {D : Blk} {rb vb n : Nat} {R : RdM} (h : rdIn w D rb vb n R) (hk : ∀ i, D i → w'.heap[i]? = w.heap[i]?) (hs : w.heap.size ≤ w'.heap.size) : rdIn w' D rb vb n R := by
  obtain ⟨tm, h⟩ := h
  exact ⟨tm, h.tab.same (hk _ h.rb_) (fun b hb => hk _ (h.tm_ b hb)), h.rb_, h.tm_, fun i hi => Nat.lt_of_lt_of_le (h.lt i hi) hs, h.sq, h.lo⟩
theorem rdIn.lt {w : World} {D : Blk} {rb vb n : Nat} {R : RdM} (h : rdIn w D rb vb n R) : ∀ i, D i → i < w.heap.size := by
  obtain ⟨tm, h⟩ := h
  exact h.lt
theorem rdIn.ext {w w' : World} {D : Blk} {rb vb n : Nat} {R : RdM} (h : rdIn w D rb vb n R) (hx : ∃ x, w' = Go.Proofs.YtafdigdopeahdaaGreatDoor.ext w x) : rdIn w' D rb vb n R :=
  h.same (fun i hi => (ext_iff.1 hx).block i (h.lt i hi)) (ext_iff.1 hx).size
theorem rdIn.step {w w' : World} {D G G' : Blk} {rb vb n : Nat} {R : RdM} (h : rdIn w D rb vb n R) (g : Go.Proofs.YtafdigdopeahdaaGreatDoor.step w w' G G') (ha : apart G D) : rdIn w' D rb vb n R :=
  h.same (g.kept ha h.lt) g.size
theorem rdIn.mono {w : World} {D : Blk} {rb vb n n' : Nat} {R : RdM} (h : rdIn w D rb vb n R) (hn : n ≤ n') : rdIn w D rb vb n' R := by
  obtain ⟨tm, h⟩ := h
  exact ⟨tm, h.tab.mono hn, h.rb_, h.tm_, h.lt, h.sq, h.lo⟩
theorem rdIn.once {w : World} {D : Blk} {rb vb n : Nat} {R : RdM} (h : rdIn w D rb vb n R) : Once R.T := by
  obtain ⟨tm, h⟩ := h
  exact h.tab.once
theorem rd_cells {w : World} {rb vb n : Nat} {sq lo : Nat} {mk : ByteArray} {T : List Cell} {tm : Option Nat} (h : tabAt w rb (HR vb sq mk lo) tm n T) :
    w.cell? ⟨rb, 0, none⟩ = some (.pointer (some ⟨vb, 0, none⟩)) ∧ w.cell? ⟨rb, 1, none⟩ = some (.int .i64 sq) ∧ w.cell? ⟨rb, 2, none⟩ = some (.string mk) ∧ w.cell? ⟨rb, 4, none⟩ = some (.int .i64 lo) ∧ rb < w.heap.size := by
  refine ⟨?_, ?_, ?_, ?_, lt_of_heap h.blk⟩ <;> (rw [cell_in, h.blk]; rfl)
set_option maxRecDepth 100000 in
theorem rnew_any (vb : Nat) (w : World) : Calls Tryz.prog 11 #[.pointer (some ⟨vb, 0, none⟩)] w fun r w' => ∃ rb D, r = .returned (.tuple #[.pointer (some ⟨rb, 0, none⟩), .nilIface]) ∧ rdIn w' D rb vb 0 RD0 ∧ step w w' none0 D ∧ ∃ x, w' = ext w x := by
  go_enter Tryz.func11, Tryz.ntmps11
  go_wp2_with fail
  go_ret2
  refine ⟨w.heap.size, fun i => i = w.heap.size, rfl, ⟨none, ⟨heap_alloc_at w _, (fun _ => rfl), (fun b hb => by cases hb)⟩, rfl, (fun b hb => by cases hb), (by rintro i rfl; simp), by decide, by decide⟩, ?_, ext_alloc _ (ext_refl _)⟩
  refine (step.alloc w _ none0).more ?_
  rintro i rfl
  exact .inr ⟨Nat.le_refl _, by simp⟩
set_option maxRecDepth 100000 in
theorem rlost_any (w : World) (D : Blk) (rb vb n : Nat) (R : RdM) (h : rdIn w D rb vb n R) :
    Calls Tryz.prog 20 #[.pointer (some ⟨rb, 0, none⟩)] w fun r w' => r = .returned (.int .i64 R.lost) ∧ w = w' := by
  obtain ⟨tm, h⟩ := h
  obtain ⟨c0, c1, c2, c4, lt⟩ := rd_cells h.tab
  clear h
  go_enter Tryz.func20, Tryz.ntmps20
  go_wp2_with fail
  go_ret
  exact ⟨rfl, rfl⟩
set_option maxRecDepth 100000 in
theorem rat_any (w : World) (D : Blk) (rb vb n : Nat) (R : RdM) (h : rdIn w D rb vb n R) :
    Calls Tryz.prog 18 #[.pointer (some ⟨rb, 0, none⟩)] w fun r w' => r = .returned (.tuple #[.int .i64 R.seq, .string R.mark]) ∧ ∃ x, w' = ext w x := by
  obtain ⟨tm, h⟩ := h
  obtain ⟨c0, c1, c2, c4, lt⟩ := rd_cells h.tab
  clear h
  go_enter Tryz.func18, Tryz.ntmps18
  go_wp2_with fail
  refine wp_region_ext (by kernel_rfl) (by kernel_rfl) ?_
  repeat (go_big_quiet_step (fail))
  refine wpQuiet_nil ?_
  rintro _ ⟨x, rfl⟩
  have HX : Hid (∃ x', ext w x = ext w x') := Lib.hid ⟨x, rfl⟩
  generalize ext w x = wx at HX ⊢
  go_wp2_with fail
  go_ret2
  exact ⟨rfl, HX.out⟩
set_option maxRecDepth 100000 in
theorem rcells_any (w : World) (D : Blk) (rb vb n : Nat) (R : RdM) (h : rdIn w D rb vb n R) (hn : n ≤ 1048576) :
    Calls Tryz.prog 16 #[.pointer (some ⟨rb, 0, none⟩)] w (RowsPost w R.T) := by
  obtain ⟨tm, h⟩ := h
  have CE := cells_any w rb 3 (HR vb R.seq R.mark R.lost) rfl tm n R.T h.tab hn
  obtain ⟨c0, c1, c2, c4, lt⟩ := rd_cells h.tab
  clear h
  go_enter Tryz.func16, Tryz.ntmps16
  go_wp2_with fail
  refine CE.mono ?_
  rintro _ w1 ⟨v, rfl, h2⟩
  have H2 := Lib.hid h2
  clear h2 CE
  go_wp2_with fail
  go_ret
  exact ⟨v, rfl, H2.out⟩
end Go.Proofs.YtafdigdopeahdaaGreatDoor
namespace Go.Proofs.YtafdigdopeahdaaGreatDoor
open Go.RowKit Go.Shelf

set_option maxRecDepth 100000 in
set_option maxHeartbeats 1000000 in
theorem read_old (x : Rec) (w : World) (D : Blk) (rb vb n : Nat) (R : RdM) (h : rdIn w D rb vb n R) (h1 : 1 ≤ x.seq) (h2 : x.seq ≤ R.seq) :
    Calls Tryz.prog 14 #[.pointer (some ⟨rb, 0, none⟩), .agg (recV x)] w fun r w' => r = .returned .nilIface ∧ ∃ x, w' = ext w x := by
  obtain ⟨tm, h⟩ := h
  have B0 := Lib.hid h.tab
  have hq := h.sq
  clear h
  obtain ⟨q, s, g, p, b⟩ := x
  unfold recV
  dsimp only at h1 h2 ⊢
  have X1 := Lib.hid (ext_alloc (.cells #[.int .i64 q, .string s, .int .i64 g, .string p, .string b] 36) (ext_refl w))
  have HE := Lib.hid (heap_alloc_at w (.cells #[.int .i64 q, .string s, .int .i64 g, .string p, .string b] 36))
  have B1 := Lib.hid (B0.out.ext X1.out)
  clear B0
  have d1 : decide (q ≥ 1) = true := decide_eq_true h1
  have d2 : decide (q ≤ (R.seq : Int)) = true := decide_eq_true h2
  go_enter Tryz.func14, Tryz.ntmps14
  go_wp2_with fail
  generalize w.alloc (.cells #[.int .i64 q, .string s, .int .i64 g, .string p, .string b] 36) = w1 at HE X1 B1 ⊢
  obtain ⟨c0, c1, c2, c3, c4⟩ := rec_cells (r := ⟨q, s, g, p, b⟩) HE.out
  dsimp only at c0 c1 c2 c3 c4
  have le := lt_of_heap HE.out
  obtain ⟨z0, z1, z2, z4, lt⟩ := rd_cells B1.out
  refine wp_region_ext (by kernel_rfl) (by kernel_rfl) ?_
  repeat (go_big_quiet_step (fail))
  refine wpQuiet_nil ?_
  rintro _ ⟨x, rfl⟩
  have HX := Lib.hid (ext_trans X1.out ⟨x, rfl⟩)
  generalize ext w1 x = wx at HX ⊢
  go_wp2_with fail
  go_ret
  exact ⟨rfl, HX.out⟩
set_option maxRecDepth 100000 in
set_option maxHeartbeats 1000000 in
theorem read_far (x : Rec) (w : World) (D : Blk) (rb vb n : Nat) (R : RdM) (h : rdIn w D rb vb n R) (h2 : R.seq + 1 < x.seq) :
    Calls Tryz.prog 14 #[.pointer (some ⟨rb, 0, none⟩), .agg (recV x)] w fun r w' => r = .returned (errV 10) ∧ ∃ x, w' = ext w x := by
  obtain ⟨tm, h⟩ := h
  have B0 := Lib.hid h.tab
  have hq := h.sq
  clear h
  obtain ⟨q, s, g, p, b⟩ := x
  unfold recV
  dsimp only at h2 ⊢
  have X1 := Lib.hid (ext_alloc (.cells #[.int .i64 q, .string s, .int .i64 g, .string p, .string b] 36) (ext_refl w))
  have HE := Lib.hid (heap_alloc_at w (.cells #[.int .i64 q, .string s, .int .i64 g, .string p, .string b] 36))
  have B1 := Lib.hid (B0.out.ext X1.out)
  clear B0
  have d1 : decide (q ≥ 1) = true := decide_eq_true (by omega)
  have d2 : decide (q ≤ (R.seq : Int)) = false := decide_eq_false (by omega)
  have d3 : (q != (R.seq : Int) + 1) = true := by simp; omega
  have d4 : (q == (R.seq : Int) + 1) = false := by simp; omega
  go_enter Tryz.func14, Tryz.ntmps14
  go_wp2_with fail
  generalize w.alloc (.cells #[.int .i64 q, .string s, .int .i64 g, .string p, .string b] 36) = w1 at HE X1 B1 ⊢
  obtain ⟨c0, c1, c2, c3, c4⟩ := rec_cells (r := ⟨q, s, g, p, b⟩) HE.out
  dsimp only at c0 c1 c2 c3 c4
  have le := lt_of_heap HE.out
  obtain ⟨z0, z1, z2, z4, lt⟩ := rd_cells B1.out
  refine wp_region_ext (by kernel_rfl) (by kernel_rfl) ?_
  repeat (go_big_quiet_step (fail))
  refine wpQuiet_nil ?_
  rintro _ ⟨x, rfl⟩
  have X2 := Lib.hid (ext_trans X1.out ⟨x, rfl⟩)
  have B2 := Lib.hid (B1.out.ext ⟨x, rfl⟩)
  have HE2 := Lib.hid ((ext_iff.1 ⟨x, rfl⟩ : Below w1.heap.size w1 (ext w1 x)).block _ (lt_of_heap HE.out) |>.trans HE.out)
  generalize ext w1 x = w2 at X2 B2 HE2 ⊢
  clear c0 c1 c2 c3 c4 z0 z1 z2 z4 lt le
  obtain ⟨c0, c1, c2, c3, c4⟩ := rec_cells (r := ⟨q, s, g, p, b⟩) HE2.out
  dsimp only at c0 c1 c2 c3 c4
  have le := lt_of_heap HE2.out
  obtain ⟨z0, z1, z2, z4, lt⟩ := rd_cells B2.out
  go_wp2_with fail
  refine wp_region_ext (by kernel_rfl) (by kernel_rfl) ?_
  repeat (go_big_quiet_step (fail))
  refine wpQuiet_nil ?_
  rintro _ ⟨x, rfl⟩
  have HX := Lib.hid (ext_trans X2.out ⟨x, rfl⟩)
  generalize ext w2 x = wx at HX ⊢
  go_wp2_with fail
  go_ret
  exact ⟨rfl, HX.out⟩
end Go.Proofs.YtafdigdopeahdaaGreatDoor
