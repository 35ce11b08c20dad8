/- event.Parse (the walk; printed by wip/bin/gen_parse.py). -/
import Derived.Test.YtnkmckdefiblhaaGreatDoorProg
import Derived.Test.YtnkmckdefiblhaaGreatDoorG12
namespace Go.Proofs.YtnkmckdefiblhaaGreatDoor
open Go.RowKit

set_option maxRecDepth 100000 in
set_option maxHeartbeats 4000000 in
theorem parse_none (s : ByteArray) (w : World) (hs : s.size ≤ 1048576) (hM : MaxL w) (hW : WordsV w) (ps : List ByteArray) (hps : piecesB s = ps) (h0 : 0 < ps.length) (hk : kindOf (txt (ps[0]'h0)) = 0) :
    Calls Tryz.prog 90 #[.string s] w fun r w' => r = .returned (.tuple #[.agg #[.int .i64 0, .string ⟨#[]⟩, .string ⟨#[]⟩, .string ⟨#[]⟩, .string ⟨#[]⟩], errV 3]) ∧ ∃ x, w' = ext w x := by
  have SP := fun w h => split_any s w hs h
  rw [hps] at SP
  generalize min 5 (s.size + 1) = N at *
  have M := Lib.hid hM
  have WW := Lib.hid hW
  clear hM hW
  have hix : Hid (max (Lib.idxOfS [wordT 0, wordT 1, wordT 2, wordT 3] (ps[0]'h0)) 0 = 0) := Lib.hid (by rw [index_kind]; exact hk)
  clear hk
  have IX := fun w h => index_any (ps[0]'h0) w h
  generalize Lib.idxOfS [wordT 0, wordT 1, wordT 2, wordT 3] (ps[0]'h0) = ix at hix IX
  go_enter Tryz.func90, Tryz.ntmps90
  go_wp2_with fail
  refine (SP _ (MaxL_ext M.out (ext_alloc _ (ext_refl w)))).mono ?_
  rintro _ w1 ⟨rfl, rfl⟩
  go_wp2_with fail
  have HZ : Hid ((w.alloc (.cells #[.int .i64 0, .string ⟨#[]⟩, .string ⟨#[]⟩, .string ⟨#[]⟩, .string ⟨#[]⟩] 155)).heap[w.heap.size]? = some (.cells #[.int .i64 0, .string ⟨#[]⟩, .string ⟨#[]⟩, .string ⟨#[]⟩, .string ⟨#[]⟩] 155 (0, 0))) := Lib.hid (heap_alloc_at _ _)
  have BZ := Lib.hid ((Below.refl w.heap.size w).alloc (Nat.le_refl _) (.cells #[.int .i64 0, .string ⟨#[]⟩, .string ⟨#[]⟩, .string ⟨#[]⟩, .string ⟨#[]⟩] 155))
  have WZ := Lib.hid (WordsV_al WW.out (.cells #[.int .i64 0, .string ⟨#[]⟩, .string ⟨#[]⟩, .string ⟨#[]⟩, .string ⟨#[]⟩] 155))
  have ez : (w.alloc (.cells #[.int .i64 0, .string ⟨#[]⟩, .string ⟨#[]⟩, .string ⟨#[]⟩, .string ⟨#[]⟩] 155)).heap.size = w.heap.size + 1 := by simp
  generalize w.alloc (.cells #[.int .i64 0, .string ⟨#[]⟩, .string ⟨#[]⟩, .string ⟨#[]⟩, .string ⟨#[]⟩] 155) = wz at HZ BZ WZ ez ⊢
  have HP := Lib.hid (heap_alloc_at wz (.cells (Lib.cellsOf ps N) 9))
  rw [ez] at HP
  have HZ1 := Lib.hid ((heap_alloc_old wz (.cells (Lib.cellsOf ps N) 9) (lt_of_heap HZ.out)).trans HZ.out)
  have B1 := Lib.hid (BZ.out.alloc BZ.out.size (.cells (Lib.cellsOf ps N) 9))
  have W1 := Lib.hid (WordsV_al WZ.out (.cells (Lib.cellsOf ps N) 9))
  have e1 : (wz.alloc (.cells (Lib.cellsOf ps N) 9)).heap.size = w.heap.size + 2 := by simp [ez]
  generalize wz.alloc (.cells (Lib.cellsOf ps N) 9) = w1 at HP HZ1 B1 W1 e1 ⊢
  clear HZ BZ WZ ez
  have c0 : w1.cell? ⟨w.heap.size + 1, 0, none⟩ = some (.string (ps[0]'h0)) := cells_pieces HP.out 0 (by first | omega | simp)
  go_region_held3 (fun w' => WordsV w' ∧ w'.cell? ⟨w.heap.size + 1, 0, none⟩ = some (.string (ps[0]'h0)))
    (refine ⟨?_, ?_⟩ <;> first | exact WordsV_dr W1.out | exact WordsV_al (WordsV_dr W1.out) _ | simp [*, World.cell?_alloc_some])
    (first | (go_at_call 119; refine (IX _ ?_).mono ?_; (first | exact WordsV_dr W1.out | exact WordsV_al (WordsV_dr W1.out) _); rintro _ _ ⟨rfl, rfl⟩))
  all_goals
    rw [hix.out]
    have HE : Hid ((w1.alloc (.cells #[.int .i64 0, .string ⟨#[]⟩, .string ⟨#[]⟩, .string ⟨#[]⟩, .string ⟨#[]⟩] 155)).drew.heap[w.heap.size + 2]? = some (.cells #[.int .i64 0, .string ⟨#[]⟩, .string ⟨#[]⟩, .string ⟨#[]⟩, .string ⟨#[]⟩] 155 (0, 0))) := Lib.hid (by rw [← e1]; exact heap_alloc_at w1 _)
    have HP2 := Lib.hid ((show (w1.alloc (.cells #[.int .i64 0, .string ⟨#[]⟩, .string ⟨#[]⟩, .string ⟨#[]⟩, .string ⟨#[]⟩] 155)).drew.heap[w.heap.size + 1]? = _ from heap_alloc_old w1 _ (lt_of_heap HP.out)).trans HP.out)
    have HZ2 := Lib.hid ((show (w1.alloc (.cells #[.int .i64 0, .string ⟨#[]⟩, .string ⟨#[]⟩, .string ⟨#[]⟩, .string ⟨#[]⟩] 155)).drew.heap[w.heap.size]? = _ from heap_alloc_old w1 _ (lt_of_heap HZ1.out)).trans HZ1.out)
    have B2 := Lib.hid ((B1.out.alloc B1.out.size (.cells #[.int .i64 0, .string ⟨#[]⟩, .string ⟨#[]⟩, .string ⟨#[]⟩, .string ⟨#[]⟩] 155)).drew)
    generalize (w1.alloc (.cells #[.int .i64 0, .string ⟨#[]⟩, .string ⟨#[]⟩, .string ⟨#[]⟩, .string ⟨#[]⟩] 155)).drew = w2 at HE HP2 HZ2 B2 ⊢
    clear HP HZ1 B1 W1 e1 c0 WW M SP IX hps
    have hmany := many_at0
    obtain ⟨f0, f1, f2, f3, f4⟩ := ev_cells HE.out
    have ff := free_of_heap HE.out
    have fz := free_of_heap HZ2.out
    obtain ⟨z0, z1, z2, z3, z4⟩ := ev_cells HZ2.out
    go_wp2_with fail
    obtain ⟨S5, U5⟩ := set5 HZ2.out (.int .i64 0) (.string ⟨#[]⟩) (.string ⟨#[]⟩) (.string ⟨#[]⟩) (.string ⟨#[]⟩)
    have S5 := Lib.hid S5
    have B5 := Lib.hid (B2.out.grown U5 B2.out.size (by rintro _ ⟨⟩; exact Nat.le_refl _))
    clear U5
    generalize (((((w2.setCell ⟨w.heap.size, 0, none⟩ (.int .i64 0)).setCell ⟨w.heap.size, 1, none⟩ (.string ⟨#[]⟩)).setCell ⟨w.heap.size, 2, none⟩ (.string ⟨#[]⟩)).setCell ⟨w.heap.size, 3, none⟩ (.string ⟨#[]⟩)).setCell ⟨w.heap.size, 4, none⟩ (.string ⟨#[]⟩)) = w5 at S5 B5 ⊢
    exact ret_cells rfl rfl S5.out Tryz.underlying155 rfl (by kernel_rfl) rfl rfl ⟨rfl, ext_of B5.out⟩
set_option maxRecDepth 100000 in
set_option maxHeartbeats 4000000 in
theorem parse_put_many (s : ByteArray) (w : World) (hs : s.size ≤ 1048576) (hM : MaxL w) (hW : WordsV w) (ps : List ByteArray) (hps : piecesB s = ps) (h0 : 0 < ps.length) (hk : kindOf (txt (ps[0]'h0)) = 1) (hm : ps.length ≠ 5) :
    Calls Tryz.prog 90 #[.string s] w fun r w' => r = .returned (.tuple #[.agg #[.int .i64 0, .string ⟨#[]⟩, .string ⟨#[]⟩, .string ⟨#[]⟩, .string ⟨#[]⟩], errV 3]) ∧ ∃ x, w' = ext w x := by
  have hmb : ((ps.length : Int) != 5) = true := by rw [bne_iff_ne]; omega
  have SP := fun w h => split_any s w hs h
  rw [hps] at SP
  generalize min 5 (s.size + 1) = N at *
  have M := Lib.hid hM
  have WW := Lib.hid hW
  clear hM hW
  have hix : Hid (max (Lib.idxOfS [wordT 0, wordT 1, wordT 2, wordT 3] (ps[0]'h0)) 0 = 1) := Lib.hid (by rw [index_kind]; exact hk)
  clear hk
  have IX := fun w h => index_any (ps[0]'h0) w h
  generalize Lib.idxOfS [wordT 0, wordT 1, wordT 2, wordT 3] (ps[0]'h0) = ix at hix IX
  go_enter Tryz.func90, Tryz.ntmps90
  go_wp2_with fail
  refine (SP _ (MaxL_ext M.out (ext_alloc _ (ext_refl w)))).mono ?_
  rintro _ w1 ⟨rfl, rfl⟩
  go_wp2_with fail
  have HZ : Hid ((w.alloc (.cells #[.int .i64 0, .string ⟨#[]⟩, .string ⟨#[]⟩, .string ⟨#[]⟩, .string ⟨#[]⟩] 155)).heap[w.heap.size]? = some (.cells #[.int .i64 0, .string ⟨#[]⟩, .string ⟨#[]⟩, .string ⟨#[]⟩, .string ⟨#[]⟩] 155 (0, 0))) := Lib.hid (heap_alloc_at _ _)
  have BZ := Lib.hid ((Below.refl w.heap.size w).alloc (Nat.le_refl _) (.cells #[.int .i64 0, .string ⟨#[]⟩, .string ⟨#[]⟩, .string ⟨#[]⟩, .string ⟨#[]⟩] 155))
  have WZ := Lib.hid (WordsV_al WW.out (.cells #[.int .i64 0, .string ⟨#[]⟩, .string ⟨#[]⟩, .string ⟨#[]⟩, .string ⟨#[]⟩] 155))
  have ez : (w.alloc (.cells #[.int .i64 0, .string ⟨#[]⟩, .string ⟨#[]⟩, .string ⟨#[]⟩, .string ⟨#[]⟩] 155)).heap.size = w.heap.size + 1 := by simp
  generalize w.alloc (.cells #[.int .i64 0, .string ⟨#[]⟩, .string ⟨#[]⟩, .string ⟨#[]⟩, .string ⟨#[]⟩] 155) = wz at HZ BZ WZ ez ⊢
  have HP := Lib.hid (heap_alloc_at wz (.cells (Lib.cellsOf ps N) 9))
  rw [ez] at HP
  have HZ1 := Lib.hid ((heap_alloc_old wz (.cells (Lib.cellsOf ps N) 9) (lt_of_heap HZ.out)).trans HZ.out)
  have B1 := Lib.hid (BZ.out.alloc BZ.out.size (.cells (Lib.cellsOf ps N) 9))
  have W1 := Lib.hid (WordsV_al WZ.out (.cells (Lib.cellsOf ps N) 9))
  have e1 : (wz.alloc (.cells (Lib.cellsOf ps N) 9)).heap.size = w.heap.size + 2 := by simp [ez]
  generalize wz.alloc (.cells (Lib.cellsOf ps N) 9) = w1 at HP HZ1 B1 W1 e1 ⊢
  clear HZ BZ WZ ez
  have c0 : w1.cell? ⟨w.heap.size + 1, 0, none⟩ = some (.string (ps[0]'h0)) := cells_pieces HP.out 0 (by first | omega | simp)
  go_region_held3 (fun w' => WordsV w' ∧ w'.cell? ⟨w.heap.size + 1, 0, none⟩ = some (.string (ps[0]'h0)))
    (refine ⟨?_, ?_⟩ <;> first | exact WordsV_dr W1.out | exact WordsV_al (WordsV_dr W1.out) _ | simp [*, World.cell?_alloc_some])
    (first | (go_at_call 119; refine (IX _ ?_).mono ?_; (first | exact WordsV_dr W1.out | exact WordsV_al (WordsV_dr W1.out) _); rintro _ _ ⟨rfl, rfl⟩))
  all_goals
    rw [hix.out]
    have HE : Hid ((w1.alloc (.cells #[.int .i64 1, .string ⟨#[]⟩, .string ⟨#[]⟩, .string ⟨#[]⟩, .string ⟨#[]⟩] 155)).drew.heap[w.heap.size + 2]? = some (.cells #[.int .i64 1, .string ⟨#[]⟩, .string ⟨#[]⟩, .string ⟨#[]⟩, .string ⟨#[]⟩] 155 (0, 0))) := Lib.hid (by rw [← e1]; exact heap_alloc_at w1 _)
    have HP2 := Lib.hid ((show (w1.alloc (.cells #[.int .i64 1, .string ⟨#[]⟩, .string ⟨#[]⟩, .string ⟨#[]⟩, .string ⟨#[]⟩] 155)).drew.heap[w.heap.size + 1]? = _ from heap_alloc_old w1 _ (lt_of_heap HP.out)).trans HP.out)
    have HZ2 := Lib.hid ((show (w1.alloc (.cells #[.int .i64 1, .string ⟨#[]⟩, .string ⟨#[]⟩, .string ⟨#[]⟩, .string ⟨#[]⟩] 155)).drew.heap[w.heap.size]? = _ from heap_alloc_old w1 _ (lt_of_heap HZ1.out)).trans HZ1.out)
    have B2 := Lib.hid ((B1.out.alloc B1.out.size (.cells #[.int .i64 1, .string ⟨#[]⟩, .string ⟨#[]⟩, .string ⟨#[]⟩, .string ⟨#[]⟩] 155)).drew)
    generalize (w1.alloc (.cells #[.int .i64 1, .string ⟨#[]⟩, .string ⟨#[]⟩, .string ⟨#[]⟩, .string ⟨#[]⟩] 155)).drew = w2 at HE HP2 HZ2 B2 ⊢
    clear HP HZ1 B1 W1 e1 c0 WW M SP IX hps
    have hmany := many_at1
    obtain ⟨f0, f1, f2, f3, f4⟩ := ev_cells HE.out
    have ff := free_of_heap HE.out
    have fz := free_of_heap HZ2.out
    obtain ⟨z0, z1, z2, z3, z4⟩ := ev_cells HZ2.out
    go_wp2_with fail
    obtain ⟨S5, U5⟩ := set5 HZ2.out (.int .i64 0) (.string ⟨#[]⟩) (.string ⟨#[]⟩) (.string ⟨#[]⟩) (.string ⟨#[]⟩)
    have S5 := Lib.hid S5
    have B5 := Lib.hid (B2.out.grown U5 B2.out.size (by rintro _ ⟨⟩; exact Nat.le_refl _))
    clear U5
    generalize (((((w2.setCell ⟨w.heap.size, 0, none⟩ (.int .i64 0)).setCell ⟨w.heap.size, 1, none⟩ (.string ⟨#[]⟩)).setCell ⟨w.heap.size, 2, none⟩ (.string ⟨#[]⟩)).setCell ⟨w.heap.size, 3, none⟩ (.string ⟨#[]⟩)).setCell ⟨w.heap.size, 4, none⟩ (.string ⟨#[]⟩)) = w5 at S5 B5 ⊢
    exact ret_cells rfl rfl S5.out Tryz.underlying155 rfl (by kernel_rfl) rfl rfl ⟨rfl, ext_of B5.out⟩
set_option maxRecDepth 100000 in
set_option maxHeartbeats 4000000 in
theorem parse_del_many (s : ByteArray) (w : World) (hs : s.size ≤ 1048576) (hM : MaxL w) (hW : WordsV w) (ps : List ByteArray) (hps : piecesB s = ps) (h0 : 0 < ps.length) (hk : kindOf (txt (ps[0]'h0)) = 2) (hm : ps.length ≠ 4) :
    Calls Tryz.prog 90 #[.string s] w fun r w' => r = .returned (.tuple #[.agg #[.int .i64 0, .string ⟨#[]⟩, .string ⟨#[]⟩, .string ⟨#[]⟩, .string ⟨#[]⟩], errV 3]) ∧ ∃ x, w' = ext w x := by
  have hmb : ((ps.length : Int) != 4) = true := by rw [bne_iff_ne]; omega
  have SP := fun w h => split_any s w hs h
  rw [hps] at SP
  generalize min 5 (s.size + 1) = N at *
  have M := Lib.hid hM
  have WW := Lib.hid hW
  clear hM hW
  have hix : Hid (max (Lib.idxOfS [wordT 0, wordT 1, wordT 2, wordT 3] (ps[0]'h0)) 0 = 2) := Lib.hid (by rw [index_kind]; exact hk)
  clear hk
  have IX := fun w h => index_any (ps[0]'h0) w h
  generalize Lib.idxOfS [wordT 0, wordT 1, wordT 2, wordT 3] (ps[0]'h0) = ix at hix IX
  go_enter Tryz.func90, Tryz.ntmps90
  go_wp2_with fail
  refine (SP _ (MaxL_ext M.out (ext_alloc _ (ext_refl w)))).mono ?_
  rintro _ w1 ⟨rfl, rfl⟩
  go_wp2_with fail
  have HZ : Hid ((w.alloc (.cells #[.int .i64 0, .string ⟨#[]⟩, .string ⟨#[]⟩, .string ⟨#[]⟩, .string ⟨#[]⟩] 155)).heap[w.heap.size]? = some (.cells #[.int .i64 0, .string ⟨#[]⟩, .string ⟨#[]⟩, .string ⟨#[]⟩, .string ⟨#[]⟩] 155 (0, 0))) := Lib.hid (heap_alloc_at _ _)
  have BZ := Lib.hid ((Below.refl w.heap.size w).alloc (Nat.le_refl _) (.cells #[.int .i64 0, .string ⟨#[]⟩, .string ⟨#[]⟩, .string ⟨#[]⟩, .string ⟨#[]⟩] 155))
  have WZ := Lib.hid (WordsV_al WW.out (.cells #[.int .i64 0, .string ⟨#[]⟩, .string ⟨#[]⟩, .string ⟨#[]⟩, .string ⟨#[]⟩] 155))
  have ez : (w.alloc (.cells #[.int .i64 0, .string ⟨#[]⟩, .string ⟨#[]⟩, .string ⟨#[]⟩, .string ⟨#[]⟩] 155)).heap.size = w.heap.size + 1 := by simp
  generalize w.alloc (.cells #[.int .i64 0, .string ⟨#[]⟩, .string ⟨#[]⟩, .string ⟨#[]⟩, .string ⟨#[]⟩] 155) = wz at HZ BZ WZ ez ⊢
  have HP := Lib.hid (heap_alloc_at wz (.cells (Lib.cellsOf ps N) 9))
  rw [ez] at HP
  have HZ1 := Lib.hid ((heap_alloc_old wz (.cells (Lib.cellsOf ps N) 9) (lt_of_heap HZ.out)).trans HZ.out)
  have B1 := Lib.hid (BZ.out.alloc BZ.out.size (.cells (Lib.cellsOf ps N) 9))
  have W1 := Lib.hid (WordsV_al WZ.out (.cells (Lib.cellsOf ps N) 9))
  have e1 : (wz.alloc (.cells (Lib.cellsOf ps N) 9)).heap.size = w.heap.size + 2 := by simp [ez]
  generalize wz.alloc (.cells (Lib.cellsOf ps N) 9) = w1 at HP HZ1 B1 W1 e1 ⊢
  clear HZ BZ WZ ez
  have c0 : w1.cell? ⟨w.heap.size + 1, 0, none⟩ = some (.string (ps[0]'h0)) := cells_pieces HP.out 0 (by first | omega | simp)
  go_region_held3 (fun w' => WordsV w' ∧ w'.cell? ⟨w.heap.size + 1, 0, none⟩ = some (.string (ps[0]'h0)))
    (refine ⟨?_, ?_⟩ <;> first | exact WordsV_dr W1.out | exact WordsV_al (WordsV_dr W1.out) _ | simp [*, World.cell?_alloc_some])
    (first | (go_at_call 119; refine (IX _ ?_).mono ?_; (first | exact WordsV_dr W1.out | exact WordsV_al (WordsV_dr W1.out) _); rintro _ _ ⟨rfl, rfl⟩))
  all_goals
    rw [hix.out]
    have HE : Hid ((w1.alloc (.cells #[.int .i64 2, .string ⟨#[]⟩, .string ⟨#[]⟩, .string ⟨#[]⟩, .string ⟨#[]⟩] 155)).drew.heap[w.heap.size + 2]? = some (.cells #[.int .i64 2, .string ⟨#[]⟩, .string ⟨#[]⟩, .string ⟨#[]⟩, .string ⟨#[]⟩] 155 (0, 0))) := Lib.hid (by rw [← e1]; exact heap_alloc_at w1 _)
    have HP2 := Lib.hid ((show (w1.alloc (.cells #[.int .i64 2, .string ⟨#[]⟩, .string ⟨#[]⟩, .string ⟨#[]⟩, .string ⟨#[]⟩] 155)).drew.heap[w.heap.size + 1]? = _ from heap_alloc_old w1 _ (lt_of_heap HP.out)).trans HP.out)
    have HZ2 := Lib.hid ((show (w1.alloc (.cells #[.int .i64 2, .string ⟨#[]⟩, .string ⟨#[]⟩, .string ⟨#[]⟩, .string ⟨#[]⟩] 155)).drew.heap[w.heap.size]? = _ from heap_alloc_old w1 _ (lt_of_heap HZ1.out)).trans HZ1.out)
    have B2 := Lib.hid ((B1.out.alloc B1.out.size (.cells #[.int .i64 2, .string ⟨#[]⟩, .string ⟨#[]⟩, .string ⟨#[]⟩, .string ⟨#[]⟩] 155)).drew)
    generalize (w1.alloc (.cells #[.int .i64 2, .string ⟨#[]⟩, .string ⟨#[]⟩, .string ⟨#[]⟩, .string ⟨#[]⟩] 155)).drew = w2 at HE HP2 HZ2 B2 ⊢
    clear HP HZ1 B1 W1 e1 c0 WW M SP IX hps
    have hmany := many_at2
    obtain ⟨f0, f1, f2, f3, f4⟩ := ev_cells HE.out
    have ff := free_of_heap HE.out
    have fz := free_of_heap HZ2.out
    obtain ⟨z0, z1, z2, z3, z4⟩ := ev_cells HZ2.out
    go_wp2_with fail
    obtain ⟨S5, U5⟩ := set5 HZ2.out (.int .i64 0) (.string ⟨#[]⟩) (.string ⟨#[]⟩) (.string ⟨#[]⟩) (.string ⟨#[]⟩)
    have S5 := Lib.hid S5
    have B5 := Lib.hid (B2.out.grown U5 B2.out.size (by rintro _ ⟨⟩; exact Nat.le_refl _))
    clear U5
    generalize (((((w2.setCell ⟨w.heap.size, 0, none⟩ (.int .i64 0)).setCell ⟨w.heap.size, 1, none⟩ (.string ⟨#[]⟩)).setCell ⟨w.heap.size, 2, none⟩ (.string ⟨#[]⟩)).setCell ⟨w.heap.size, 3, none⟩ (.string ⟨#[]⟩)).setCell ⟨w.heap.size, 4, none⟩ (.string ⟨#[]⟩)) = w5 at S5 B5 ⊢
    exact ret_cells rfl rfl S5.out Tryz.underlying155 rfl (by kernel_rfl) rfl rfl ⟨rfl, ext_of B5.out⟩
set_option maxRecDepth 100000 in
set_option maxHeartbeats 4000000 in
theorem parse_gone_many (s : ByteArray) (w : World) (hs : s.size ≤ 1048576) (hM : MaxL w) (hW : WordsV w) (ps : List ByteArray) (hps : piecesB s = ps) (h0 : 0 < ps.length) (hk : kindOf (txt (ps[0]'h0)) = 3) (hm : ps.length ≠ 2) :
    Calls Tryz.prog 90 #[.string s] w fun r w' => r = .returned (.tuple #[.agg #[.int .i64 0, .string ⟨#[]⟩, .string ⟨#[]⟩, .string ⟨#[]⟩, .string ⟨#[]⟩], errV 3]) ∧ ∃ x, w' = ext w x := by
  have hmb : ((ps.length : Int) != 2) = true := by rw [bne_iff_ne]; omega
  have SP := fun w h => split_any s w hs h
  rw [hps] at SP
  generalize min 5 (s.size + 1) = N at *
  have M := Lib.hid hM
  have WW := Lib.hid hW
  clear hM hW
  have hix : Hid (max (Lib.idxOfS [wordT 0, wordT 1, wordT 2, wordT 3] (ps[0]'h0)) 0 = 3) := Lib.hid (by rw [index_kind]; exact hk)
  clear hk
  have IX := fun w h => index_any (ps[0]'h0) w h
  generalize Lib.idxOfS [wordT 0, wordT 1, wordT 2, wordT 3] (ps[0]'h0) = ix at hix IX
  go_enter Tryz.func90, Tryz.ntmps90
  go_wp2_with fail
  refine (SP _ (MaxL_ext M.out (ext_alloc _ (ext_refl w)))).mono ?_
  rintro _ w1 ⟨rfl, rfl⟩
  go_wp2_with fail
  have HZ : Hid ((w.alloc (.cells #[.int .i64 0, .string ⟨#[]⟩, .string ⟨#[]⟩, .string ⟨#[]⟩, .string ⟨#[]⟩] 155)).heap[w.heap.size]? = some (.cells #[.int .i64 0, .string ⟨#[]⟩, .string ⟨#[]⟩, .string ⟨#[]⟩, .string ⟨#[]⟩] 155 (0, 0))) := Lib.hid (heap_alloc_at _ _)
  have BZ := Lib.hid ((Below.refl w.heap.size w).alloc (Nat.le_refl _) (.cells #[.int .i64 0, .string ⟨#[]⟩, .string ⟨#[]⟩, .string ⟨#[]⟩, .string ⟨#[]⟩] 155))
  have WZ := Lib.hid (WordsV_al WW.out (.cells #[.int .i64 0, .string ⟨#[]⟩, .string ⟨#[]⟩, .string ⟨#[]⟩, .string ⟨#[]⟩] 155))
  have ez : (w.alloc (.cells #[.int .i64 0, .string ⟨#[]⟩, .string ⟨#[]⟩, .string ⟨#[]⟩, .string ⟨#[]⟩] 155)).heap.size = w.heap.size + 1 := by simp
  generalize w.alloc (.cells #[.int .i64 0, .string ⟨#[]⟩, .string ⟨#[]⟩, .string ⟨#[]⟩, .string ⟨#[]⟩] 155) = wz at HZ BZ WZ ez ⊢
  have HP := Lib.hid (heap_alloc_at wz (.cells (Lib.cellsOf ps N) 9))
  rw [ez] at HP
  have HZ1 := Lib.hid ((heap_alloc_old wz (.cells (Lib.cellsOf ps N) 9) (lt_of_heap HZ.out)).trans HZ.out)
  have B1 := Lib.hid (BZ.out.alloc BZ.out.size (.cells (Lib.cellsOf ps N) 9))
  have W1 := Lib.hid (WordsV_al WZ.out (.cells (Lib.cellsOf ps N) 9))
  have e1 : (wz.alloc (.cells (Lib.cellsOf ps N) 9)).heap.size = w.heap.size + 2 := by simp [ez]
  generalize wz.alloc (.cells (Lib.cellsOf ps N) 9) = w1 at HP HZ1 B1 W1 e1 ⊢
  clear HZ BZ WZ ez
  have c0 : w1.cell? ⟨w.heap.size + 1, 0, none⟩ = some (.string (ps[0]'h0)) := cells_pieces HP.out 0 (by first | omega | simp)
  go_region_held3 (fun w' => WordsV w' ∧ w'.cell? ⟨w.heap.size + 1, 0, none⟩ = some (.string (ps[0]'h0)))
    (refine ⟨?_, ?_⟩ <;> first | exact WordsV_dr W1.out | exact WordsV_al (WordsV_dr W1.out) _ | simp [*, World.cell?_alloc_some])
    (first | (go_at_call 119; refine (IX _ ?_).mono ?_; (first | exact WordsV_dr W1.out | exact WordsV_al (WordsV_dr W1.out) _); rintro _ _ ⟨rfl, rfl⟩))
  all_goals
    rw [hix.out]
    have HE : Hid ((w1.alloc (.cells #[.int .i64 3, .string ⟨#[]⟩, .string ⟨#[]⟩, .string ⟨#[]⟩, .string ⟨#[]⟩] 155)).drew.heap[w.heap.size + 2]? = some (.cells #[.int .i64 3, .string ⟨#[]⟩, .string ⟨#[]⟩, .string ⟨#[]⟩, .string ⟨#[]⟩] 155 (0, 0))) := Lib.hid (by rw [← e1]; exact heap_alloc_at w1 _)
    have HP2 := Lib.hid ((show (w1.alloc (.cells #[.int .i64 3, .string ⟨#[]⟩, .string ⟨#[]⟩, .string ⟨#[]⟩, .string ⟨#[]⟩] 155)).drew.heap[w.heap.size + 1]? = _ from heap_alloc_old w1 _ (lt_of_heap HP.out)).trans HP.out)
    have HZ2 := Lib.hid ((show (w1.alloc (.cells #[.int .i64 3, .string ⟨#[]⟩, .string ⟨#[]⟩, .string ⟨#[]⟩, .string ⟨#[]⟩] 155)).drew.heap[w.heap.size]? = _ from heap_alloc_old w1 _ (lt_of_heap HZ1.out)).trans HZ1.out)
    have B2 := Lib.hid ((B1.out.alloc B1.out.size (.cells #[.int .i64 3, .string ⟨#[]⟩, .string ⟨#[]⟩, .string ⟨#[]⟩, .string ⟨#[]⟩] 155)).drew)
    generalize (w1.alloc (.cells #[.int .i64 3, .string ⟨#[]⟩, .string ⟨#[]⟩, .string ⟨#[]⟩, .string ⟨#[]⟩] 155)).drew = w2 at HE HP2 HZ2 B2 ⊢
    clear HP HZ1 B1 W1 e1 c0 WW M SP IX hps
    have hmany := many_at3
    obtain ⟨f0, f1, f2, f3, f4⟩ := ev_cells HE.out
    have ff := free_of_heap HE.out
    have fz := free_of_heap HZ2.out
    obtain ⟨z0, z1, z2, z3, z4⟩ := ev_cells HZ2.out
    go_wp2_with fail
    obtain ⟨S5, U5⟩ := set5 HZ2.out (.int .i64 0) (.string ⟨#[]⟩) (.string ⟨#[]⟩) (.string ⟨#[]⟩) (.string ⟨#[]⟩)
    have S5 := Lib.hid S5
    have B5 := Lib.hid (B2.out.grown U5 B2.out.size (by rintro _ ⟨⟩; exact Nat.le_refl _))
    clear U5
    generalize (((((w2.setCell ⟨w.heap.size, 0, none⟩ (.int .i64 0)).setCell ⟨w.heap.size, 1, none⟩ (.string ⟨#[]⟩)).setCell ⟨w.heap.size, 2, none⟩ (.string ⟨#[]⟩)).setCell ⟨w.heap.size, 3, none⟩ (.string ⟨#[]⟩)).setCell ⟨w.heap.size, 4, none⟩ (.string ⟨#[]⟩)) = w5 at S5 B5 ⊢
    exact ret_cells rfl rfl S5.out Tryz.underlying155 rfl (by kernel_rfl) rfl rfl ⟨rfl, ext_of B5.out⟩
set_option maxRecDepth 100000 in
set_option maxHeartbeats 4000000 in
theorem parse_put (s : ByteArray) (w : World) (hs : s.size ≤ 1048576) (hM : MaxL w) (hW : WordsV w) (x0 x1 x2 x3 x4 : ByteArray) (hps : piecesB s = [x0, x1, x2, x3, x4]) (hk : kindOf (txt x0) = 1) (B : Bool) (hB : rightE okV ⟨1, x1, x2, x3, x4⟩ = B) :
    Calls Tryz.prog 90 #[.string s] w fun r w' => r = .returned (if B = true then .tuple #[.agg #[.int .i64 1, .string x1, .string x2, .string x3, .string x4], .nilIface] else .tuple #[.agg #[.int .i64 0, .string ⟨#[]⟩, .string ⟨#[]⟩, .string ⟨#[]⟩, .string ⟨#[]⟩], errV 3]) ∧ ∃ x, w' = ext w x := by
  have hle := piecesB_le s
  rw [hps] at hle
  have RT := fun w => right_any ⟨1, x1, x2, x3, x4⟩ w ⟨Nat.le_trans (hle x1 (by simp)) hs, Nat.le_trans (hle x2 (by simp)) hs, Nat.le_trans (hle x3 (by simp)) hs⟩
  rw [hB] at RT
  unfold evV at RT
  clear hB hle
  have SP := fun w h => split_any s w hs h
  rw [hps] at SP
  generalize min 5 (s.size + 1) = N at *
  have M := Lib.hid hM
  have WW := Lib.hid hW
  clear hM hW
  have hix : Hid (max (Lib.idxOfS [wordT 0, wordT 1, wordT 2, wordT 3] x0) 0 = 1) := Lib.hid (by rw [index_kind]; exact hk)
  clear hk
  have IX := fun w h => index_any x0 w h
  generalize Lib.idxOfS [wordT 0, wordT 1, wordT 2, wordT 3] x0 = ix at hix IX
  go_enter Tryz.func90, Tryz.ntmps90
  go_wp2_with fail
  refine (SP _ (MaxL_ext M.out (ext_alloc _ (ext_refl w)))).mono ?_
  rintro _ w1 ⟨rfl, rfl⟩
  go_wp2_with fail
  have HZ : Hid ((w.alloc (.cells #[.int .i64 0, .string ⟨#[]⟩, .string ⟨#[]⟩, .string ⟨#[]⟩, .string ⟨#[]⟩] 155)).heap[w.heap.size]? = some (.cells #[.int .i64 0, .string ⟨#[]⟩, .string ⟨#[]⟩, .string ⟨#[]⟩, .string ⟨#[]⟩] 155 (0, 0))) := Lib.hid (heap_alloc_at _ _)
  have BZ := Lib.hid ((Below.refl w.heap.size w).alloc (Nat.le_refl _) (.cells #[.int .i64 0, .string ⟨#[]⟩, .string ⟨#[]⟩, .string ⟨#[]⟩, .string ⟨#[]⟩] 155))
  have WZ := Lib.hid (WordsV_al WW.out (.cells #[.int .i64 0, .string ⟨#[]⟩, .string ⟨#[]⟩, .string ⟨#[]⟩, .string ⟨#[]⟩] 155))
  have ez : (w.alloc (.cells #[.int .i64 0, .string ⟨#[]⟩, .string ⟨#[]⟩, .string ⟨#[]⟩, .string ⟨#[]⟩] 155)).heap.size = w.heap.size + 1 := by simp
  generalize w.alloc (.cells #[.int .i64 0, .string ⟨#[]⟩, .string ⟨#[]⟩, .string ⟨#[]⟩, .string ⟨#[]⟩] 155) = wz at HZ BZ WZ ez ⊢
  have HP := Lib.hid (heap_alloc_at wz (.cells (Lib.cellsOf [x0, x1, x2, x3, x4] N) 9))
  rw [ez] at HP
  have HZ1 := Lib.hid ((heap_alloc_old wz (.cells (Lib.cellsOf [x0, x1, x2, x3, x4] N) 9) (lt_of_heap HZ.out)).trans HZ.out)
  have B1 := Lib.hid (BZ.out.alloc BZ.out.size (.cells (Lib.cellsOf [x0, x1, x2, x3, x4] N) 9))
  have W1 := Lib.hid (WordsV_al WZ.out (.cells (Lib.cellsOf [x0, x1, x2, x3, x4] N) 9))
  have e1 : (wz.alloc (.cells (Lib.cellsOf [x0, x1, x2, x3, x4] N) 9)).heap.size = w.heap.size + 2 := by simp [ez]
  generalize wz.alloc (.cells (Lib.cellsOf [x0, x1, x2, x3, x4] N) 9) = w1 at HP HZ1 B1 W1 e1 ⊢
  clear HZ BZ WZ ez
  have c0 : w1.cell? ⟨w.heap.size + 1, 0, none⟩ = some (.string x0) := cells_pieces HP.out 0 (by first | omega | simp)
  go_region_held3 (fun w' => WordsV w' ∧ w'.cell? ⟨w.heap.size + 1, 0, none⟩ = some (.string x0))
    (refine ⟨?_, ?_⟩ <;> first | exact WordsV_dr W1.out | exact WordsV_al (WordsV_dr W1.out) _ | simp [*, World.cell?_alloc_some])
    (first | (go_at_call 119; refine (IX _ ?_).mono ?_; (first | exact WordsV_dr W1.out | exact WordsV_al (WordsV_dr W1.out) _); rintro _ _ ⟨rfl, rfl⟩))
  all_goals
    rw [hix.out]
    have HE : Hid ((w1.alloc (.cells #[.int .i64 1, .string ⟨#[]⟩, .string ⟨#[]⟩, .string ⟨#[]⟩, .string ⟨#[]⟩] 155)).drew.heap[w.heap.size + 2]? = some (.cells #[.int .i64 1, .string ⟨#[]⟩, .string ⟨#[]⟩, .string ⟨#[]⟩, .string ⟨#[]⟩] 155 (0, 0))) := Lib.hid (by rw [← e1]; exact heap_alloc_at w1 _)
    have HP2 := Lib.hid ((show (w1.alloc (.cells #[.int .i64 1, .string ⟨#[]⟩, .string ⟨#[]⟩, .string ⟨#[]⟩, .string ⟨#[]⟩] 155)).drew.heap[w.heap.size + 1]? = _ from heap_alloc_old w1 _ (lt_of_heap HP.out)).trans HP.out)
    have HZ2 := Lib.hid ((show (w1.alloc (.cells #[.int .i64 1, .string ⟨#[]⟩, .string ⟨#[]⟩, .string ⟨#[]⟩, .string ⟨#[]⟩] 155)).drew.heap[w.heap.size]? = _ from heap_alloc_old w1 _ (lt_of_heap HZ1.out)).trans HZ1.out)
    have B2 := Lib.hid ((B1.out.alloc B1.out.size (.cells #[.int .i64 1, .string ⟨#[]⟩, .string ⟨#[]⟩, .string ⟨#[]⟩, .string ⟨#[]⟩] 155)).drew)
    generalize (w1.alloc (.cells #[.int .i64 1, .string ⟨#[]⟩, .string ⟨#[]⟩, .string ⟨#[]⟩, .string ⟨#[]⟩] 155)).drew = w2 at HE HP2 HZ2 B2 ⊢
    clear HP HZ1 B1 W1 e1 c0 WW M SP IX hps
    have hmany := many_at1
    obtain ⟨f0, f1, f2, f3, f4⟩ := ev_cells HE.out
    have ff := free_of_heap HE.out
    have fz := free_of_heap HZ2.out
    obtain ⟨z0, z1, z2, z3, z4⟩ := ev_cells HZ2.out
    have c1 := cells_pieces HP2.out 1 (by simp)
    rw [show ([x0, x1, x2, x3, x4] : List ByteArray)[1] = x1 from rfl] at c1
    go_wp2_with fail
    have HE3 : Hid ((w2.setCell ⟨w.heap.size + 2, 1, none⟩ (.string x1)).heap[w.heap.size + 2]? = some (.cells #[.int .i64 1, .string x1, .string ⟨#[]⟩, .string ⟨#[]⟩, .string ⟨#[]⟩] 155 (0, 0))) := Lib.hid (heap_setCell HE.out _)
    have HE2 := HE
    clear HE
    have U3 := grown_setCell w2 (w.heap.size + 2) 1 (.string x1)
    have HP3 := Lib.hid ((U3.block (w.heap.size + 1) (lt_of_heap HP2.out) (by intro e; injection e with e; omega)).trans HP2.out)
    have HZ3 := Lib.hid ((U3.block w.heap.size (lt_of_heap HZ2.out) (by intro e; injection e with e; omega)).trans HZ2.out)
    have B3 := Lib.hid (B2.out.grown U3 B2.out.size (by rintro _ ⟨⟩; omega))
    generalize w2.setCell ⟨w.heap.size + 2, 1, none⟩ (.string x1) = w3 at HE3 HP3 HZ3 B3 ⊢
    clear HE2 HP2 HZ2 B2 f0 f1 f2 f3 f4 ff fz z0 z1 z2 z3 z4
    obtain ⟨f0, f1, f2, f3, f4⟩ := ev_cells HE3.out
    have ff := free_of_heap HE3.out
    have fz := free_of_heap HZ3.out
    obtain ⟨z0, z1, z2, z3, z4⟩ := ev_cells HZ3.out
    clear U3 c1
    have c2 := cells_pieces HP3.out 2 (by simp)
    rw [show ([x0, x1, x2, x3, x4] : List ByteArray)[2] = x2 from rfl] at c2
    have c3 := cells_pieces HP3.out 3 (by simp)
    rw [show ([x0, x1, x2, x3, x4] : List ByteArray)[3] = x3 from rfl] at c3
    go_region_held3 (fun w' => w'.cell? ⟨w.heap.size + 1, 2, none⟩ = some (.string x2) ∧ w'.cell? ⟨w.heap.size + 1, 3, none⟩ = some (.string x3))
      (simp [*, World.cell?_setCell_far]) (fail)
    have HE4 : Hid (((w3.setCell ⟨w.heap.size + 2, 2, none⟩ (.string x2)).setCell ⟨w.heap.size + 2, 3, none⟩ (.string x3)).drew.heap[w.heap.size + 2]? = some (.cells #[.int .i64 1, .string x1, .string x2, .string x3, .string ⟨#[]⟩] 155 (0, 0))) := Lib.hid (heap_setCell (heap_setCell HE3.out _) _)
    have U4 : w3.grownBy ((w3.setCell ⟨w.heap.size + 2, 2, none⟩ (.string x2)).setCell ⟨w.heap.size + 2, 3, none⟩ (.string x3)).drew (some (w.heap.size + 2)) := ((grown_setCell w3 (w.heap.size + 2) 2 (.string x2)).trans (grown_setCell _ (w.heap.size + 2) 3 (.string x3))).trans ⟨rfl, rfl, rfl, Nat.le_refl _, fun _ _ _ => rfl⟩
    have HP4 := Lib.hid ((U4.block (w.heap.size + 1) (lt_of_heap HP3.out) (by intro e; injection e with e; omega)).trans HP3.out)
    have HZ4 := Lib.hid ((U4.block w.heap.size (lt_of_heap HZ3.out) (by intro e; injection e with e; omega)).trans HZ3.out)
    have B4 := Lib.hid (B3.out.grown U4 B3.out.size (by rintro _ ⟨⟩; omega))
    generalize ((w3.setCell ⟨w.heap.size + 2, 2, none⟩ (.string x2)).setCell ⟨w.heap.size + 2, 3, none⟩ (.string x3)).drew = w4 at HE4 HP4 HZ4 B4 ⊢
    clear HE3 HP3 HZ3 B3 f0 f1 f2 f3 f4 ff fz z0 z1 z2 z3 z4
    obtain ⟨f0, f1, f2, f3, f4⟩ := ev_cells HE4.out
    have ff := free_of_heap HE4.out
    have fz := free_of_heap HZ4.out
    obtain ⟨z0, z1, z2, z3, z4⟩ := ev_cells HZ4.out
    clear U4 c2 c3
    have c4 := cells_pieces HP4.out 4 (by simp)
    rw [show ([x0, x1, x2, x3, x4] : List ByteArray)[4] = x4 from rfl] at c4
    go_wp2_with fail
    have HE5 : Hid ((w4.setCell ⟨w.heap.size + 2, 4, none⟩ (.string x4)).heap[w.heap.size + 2]? = some (.cells #[.int .i64 1, .string x1, .string x2, .string x3, .string x4] 155 (0, 0))) := Lib.hid (heap_setCell HE4.out _)
    have U5 := grown_setCell w4 (w.heap.size + 2) 4 (.string x4)
    have HP5 := Lib.hid ((U5.block (w.heap.size + 1) (lt_of_heap HP4.out) (by intro e; injection e with e; omega)).trans HP4.out)
    have HZ5 := Lib.hid ((U5.block w.heap.size (lt_of_heap HZ4.out) (by intro e; injection e with e; omega)).trans HZ4.out)
    have B5 := Lib.hid (B4.out.grown U5 B4.out.size (by rintro _ ⟨⟩; omega))
    generalize w4.setCell ⟨w.heap.size + 2, 4, none⟩ (.string x4) = w5 at HE5 HP5 HZ5 B5 ⊢
    clear HE4 HP4 HZ4 B4 f0 f1 f2 f3 f4 ff fz z0 z1 z2 z3 z4
    obtain ⟨f0, f1, f2, f3, f4⟩ := ev_cells HE5.out
    have ff := free_of_heap HE5.out
    have fz := free_of_heap HZ5.out
    obtain ⟨z0, z1, z2, z3, z4⟩ := ev_cells HZ5.out
    clear U5 c4
    refine (RT _).mono ?_
    rintro _ w6 ⟨rfl, hx⟩
    have HE6 := Lib.hid (((ext_iff.1 hx).block _ (lt_of_heap HE5.out)).trans HE5.out)
    have HZ6 := Lib.hid (((ext_iff.1 hx).block _ (lt_of_heap HZ5.out)).trans HZ5.out)
    have B6 := Lib.hid (B5.out.trans ((ext_iff.1 hx).mono B5.out.size))
    clear hx HE5 HZ5 B5 HP5 f0 f1 f2 f3 f4 ff fz z0 z1 z2 z3 z4 RT
    obtain ⟨f0, f1, f2, f3, f4⟩ := ev_cells HE6.out
    have fz := free_of_heap HZ6.out
    obtain ⟨z0, z1, z2, z3, z4⟩ := ev_cells HZ6.out
    cases B with
    | false =>
      go_wp2_with fail
      obtain ⟨S5, U5⟩ := set5 HZ6.out (.int .i64 0) (.string ⟨#[]⟩) (.string ⟨#[]⟩) (.string ⟨#[]⟩) (.string ⟨#[]⟩)
      have S5 := Lib.hid S5
      have B5 := Lib.hid (B6.out.grown U5 B6.out.size (by rintro _ ⟨⟩; exact Nat.le_refl _))
      clear U5
      generalize (((((w6.setCell ⟨w.heap.size, 0, none⟩ (.int .i64 0)).setCell ⟨w.heap.size, 1, none⟩ (.string ⟨#[]⟩)).setCell ⟨w.heap.size, 2, none⟩ (.string ⟨#[]⟩)).setCell ⟨w.heap.size, 3, none⟩ (.string ⟨#[]⟩)).setCell ⟨w.heap.size, 4, none⟩ (.string ⟨#[]⟩)) = w5 at S5 B5 ⊢
      exact ret_cells rfl rfl S5.out Tryz.underlying155 rfl (by kernel_rfl) rfl rfl ⟨rfl, ext_of B5.out⟩
    | true =>
      go_wp2_with fail
      obtain ⟨S5, U5⟩ := set5 HZ6.out (.int .i64 1) (.string x1) (.string x2) (.string x3) (.string x4)
      have S5 := Lib.hid S5
      have B5 := Lib.hid (B6.out.grown U5 B6.out.size (by rintro _ ⟨⟩; exact Nat.le_refl _))
      clear U5
      generalize (((((w6.setCell ⟨w.heap.size, 0, none⟩ (.int .i64 1)).setCell ⟨w.heap.size, 1, none⟩ (.string x1)).setCell ⟨w.heap.size, 2, none⟩ (.string x2)).setCell ⟨w.heap.size, 3, none⟩ (.string x3)).setCell ⟨w.heap.size, 4, none⟩ (.string x4)) = w5 at S5 B5 ⊢
      exact ret_cells rfl rfl S5.out Tryz.underlying155 rfl (by kernel_rfl) rfl rfl ⟨rfl, ext_of B5.out⟩
set_option maxRecDepth 100000 in
set_option maxHeartbeats 4000000 in
theorem parse_del (s : ByteArray) (w : World) (hs : s.size ≤ 1048576) (hM : MaxL w) (hW : WordsV w) (x0 x1 x2 x3 : ByteArray) (hps : piecesB s = [x0, x1, x2, x3]) (hk : kindOf (txt x0) = 2) (B : Bool) (hB : rightE okV ⟨2, x1, x2, x3, ⟨#[]⟩⟩ = B) :
    Calls Tryz.prog 90 #[.string s] w fun r w' => r = .returned (if B = true then .tuple #[.agg #[.int .i64 2, .string x1, .string x2, .string x3, .string ⟨#[]⟩], .nilIface] else .tuple #[.agg #[.int .i64 0, .string ⟨#[]⟩, .string ⟨#[]⟩, .string ⟨#[]⟩, .string ⟨#[]⟩], errV 3]) ∧ ∃ x, w' = ext w x := by
  have hle := piecesB_le s
  rw [hps] at hle
  have RT := fun w => right_any ⟨2, x1, x2, x3, ⟨#[]⟩⟩ w ⟨Nat.le_trans (hle x1 (by simp)) hs, Nat.le_trans (hle x2 (by simp)) hs, Nat.le_trans (hle x3 (by simp)) hs⟩
  rw [hB] at RT
  unfold evV at RT
  clear hB hle
  have SP := fun w h => split_any s w hs h
  rw [hps] at SP
  generalize min 5 (s.size + 1) = N at *
  have M := Lib.hid hM
  have WW := Lib.hid hW
  clear hM hW
  have hix : Hid (max (Lib.idxOfS [wordT 0, wordT 1, wordT 2, wordT 3] x0) 0 = 2) := Lib.hid (by rw [index_kind]; exact hk)
  clear hk
  have IX := fun w h => index_any x0 w h
  generalize Lib.idxOfS [wordT 0, wordT 1, wordT 2, wordT 3] x0 = ix at hix IX
  go_enter Tryz.func90, Tryz.ntmps90
  go_wp2_with fail
  refine (SP _ (MaxL_ext M.out (ext_alloc _ (ext_refl w)))).mono ?_
  rintro _ w1 ⟨rfl, rfl⟩
  go_wp2_with fail
  have HZ : Hid ((w.alloc (.cells #[.int .i64 0, .string ⟨#[]⟩, .string ⟨#[]⟩, .string ⟨#[]⟩, .string ⟨#[]⟩] 155)).heap[w.heap.size]? = some (.cells #[.int .i64 0, .string ⟨#[]⟩, .string ⟨#[]⟩, .string ⟨#[]⟩, .string ⟨#[]⟩] 155 (0, 0))) := Lib.hid (heap_alloc_at _ _)
  have BZ := Lib.hid ((Below.refl w.heap.size w).alloc (Nat.le_refl _) (.cells #[.int .i64 0, .string ⟨#[]⟩, .string ⟨#[]⟩, .string ⟨#[]⟩, .string ⟨#[]⟩] 155))
  have WZ := Lib.hid (WordsV_al WW.out (.cells #[.int .i64 0, .string ⟨#[]⟩, .string ⟨#[]⟩, .string ⟨#[]⟩, .string ⟨#[]⟩] 155))
  have ez : (w.alloc (.cells #[.int .i64 0, .string ⟨#[]⟩, .string ⟨#[]⟩, .string ⟨#[]⟩, .string ⟨#[]⟩] 155)).heap.size = w.heap.size + 1 := by simp
  generalize w.alloc (.cells #[.int .i64 0, .string ⟨#[]⟩, .string ⟨#[]⟩, .string ⟨#[]⟩, .string ⟨#[]⟩] 155) = wz at HZ BZ WZ ez ⊢
  have HP := Lib.hid (heap_alloc_at wz (.cells (Lib.cellsOf [x0, x1, x2, x3] N) 9))
  rw [ez] at HP
  have HZ1 := Lib.hid ((heap_alloc_old wz (.cells (Lib.cellsOf [x0, x1, x2, x3] N) 9) (lt_of_heap HZ.out)).trans HZ.out)
  have B1 := Lib.hid (BZ.out.alloc BZ.out.size (.cells (Lib.cellsOf [x0, x1, x2, x3] N) 9))
  have W1 := Lib.hid (WordsV_al WZ.out (.cells (Lib.cellsOf [x0, x1, x2, x3] N) 9))
  have e1 : (wz.alloc (.cells (Lib.cellsOf [x0, x1, x2, x3] N) 9)).heap.size = w.heap.size + 2 := by simp [ez]
  generalize wz.alloc (.cells (Lib.cellsOf [x0, x1, x2, x3] N) 9) = w1 at HP HZ1 B1 W1 e1 ⊢
  clear HZ BZ WZ ez
  have c0 : w1.cell? ⟨w.heap.size + 1, 0, none⟩ = some (.string x0) := cells_pieces HP.out 0 (by first | omega | simp)
  go_region_held3 (fun w' => WordsV w' ∧ w'.cell? ⟨w.heap.size + 1, 0, none⟩ = some (.string x0))
    (refine ⟨?_, ?_⟩ <;> first | exact WordsV_dr W1.out | exact WordsV_al (WordsV_dr W1.out) _ | simp [*, World.cell?_alloc_some])
    (first | (go_at_call 119; refine (IX _ ?_).mono ?_; (first | exact WordsV_dr W1.out | exact WordsV_al (WordsV_dr W1.out) _); rintro _ _ ⟨rfl, rfl⟩))
  all_goals
    rw [hix.out]
    have HE : Hid ((w1.alloc (.cells #[.int .i64 2, .string ⟨#[]⟩, .string ⟨#[]⟩, .string ⟨#[]⟩, .string ⟨#[]⟩] 155)).drew.heap[w.heap.size + 2]? = some (.cells #[.int .i64 2, .string ⟨#[]⟩, .string ⟨#[]⟩, .string ⟨#[]⟩, .string ⟨#[]⟩] 155 (0, 0))) := Lib.hid (by rw [← e1]; exact heap_alloc_at w1 _)
    have HP2 := Lib.hid ((show (w1.alloc (.cells #[.int .i64 2, .string ⟨#[]⟩, .string ⟨#[]⟩, .string ⟨#[]⟩, .string ⟨#[]⟩] 155)).drew.heap[w.heap.size + 1]? = _ from heap_alloc_old w1 _ (lt_of_heap HP.out)).trans HP.out)
    have HZ2 := Lib.hid ((show (w1.alloc (.cells #[.int .i64 2, .string ⟨#[]⟩, .string ⟨#[]⟩, .string ⟨#[]⟩, .string ⟨#[]⟩] 155)).drew.heap[w.heap.size]? = _ from heap_alloc_old w1 _ (lt_of_heap HZ1.out)).trans HZ1.out)
    have B2 := Lib.hid ((B1.out.alloc B1.out.size (.cells #[.int .i64 2, .string ⟨#[]⟩, .string ⟨#[]⟩, .string ⟨#[]⟩, .string ⟨#[]⟩] 155)).drew)
    generalize (w1.alloc (.cells #[.int .i64 2, .string ⟨#[]⟩, .string ⟨#[]⟩, .string ⟨#[]⟩, .string ⟨#[]⟩] 155)).drew = w2 at HE HP2 HZ2 B2 ⊢
    clear HP HZ1 B1 W1 e1 c0 WW M SP IX hps
    have hmany := many_at2
    obtain ⟨f0, f1, f2, f3, f4⟩ := ev_cells HE.out
    have ff := free_of_heap HE.out
    have fz := free_of_heap HZ2.out
    obtain ⟨z0, z1, z2, z3, z4⟩ := ev_cells HZ2.out
    have c1 := cells_pieces HP2.out 1 (by simp)
    rw [show ([x0, x1, x2, x3] : List ByteArray)[1] = x1 from rfl] at c1
    go_wp2_with fail
    have HE3 : Hid ((w2.setCell ⟨w.heap.size + 2, 1, none⟩ (.string x1)).heap[w.heap.size + 2]? = some (.cells #[.int .i64 2, .string x1, .string ⟨#[]⟩, .string ⟨#[]⟩, .string ⟨#[]⟩] 155 (0, 0))) := Lib.hid (heap_setCell HE.out _)
    have HE2 := HE
    clear HE
    have U3 := grown_setCell w2 (w.heap.size + 2) 1 (.string x1)
    have HP3 := Lib.hid ((U3.block (w.heap.size + 1) (lt_of_heap HP2.out) (by intro e; injection e with e; omega)).trans HP2.out)
    have HZ3 := Lib.hid ((U3.block w.heap.size (lt_of_heap HZ2.out) (by intro e; injection e with e; omega)).trans HZ2.out)
    have B3 := Lib.hid (B2.out.grown U3 B2.out.size (by rintro _ ⟨⟩; omega))
    generalize w2.setCell ⟨w.heap.size + 2, 1, none⟩ (.string x1) = w3 at HE3 HP3 HZ3 B3 ⊢
    clear HE2 HP2 HZ2 B2 f0 f1 f2 f3 f4 ff fz z0 z1 z2 z3 z4
    obtain ⟨f0, f1, f2, f3, f4⟩ := ev_cells HE3.out
    have ff := free_of_heap HE3.out
    have fz := free_of_heap HZ3.out
    obtain ⟨z0, z1, z2, z3, z4⟩ := ev_cells HZ3.out
    clear U3 c1
    have c2 := cells_pieces HP3.out 2 (by simp)
    rw [show ([x0, x1, x2, x3] : List ByteArray)[2] = x2 from rfl] at c2
    have c3 := cells_pieces HP3.out 3 (by simp)
    rw [show ([x0, x1, x2, x3] : List ByteArray)[3] = x3 from rfl] at c3
    go_region_held3 (fun w' => w'.cell? ⟨w.heap.size + 1, 2, none⟩ = some (.string x2) ∧ w'.cell? ⟨w.heap.size + 1, 3, none⟩ = some (.string x3))
      (simp [*, World.cell?_setCell_far]) (fail)
    have HE4 : Hid (((w3.setCell ⟨w.heap.size + 2, 2, none⟩ (.string x2)).setCell ⟨w.heap.size + 2, 3, none⟩ (.string x3)).drew.heap[w.heap.size + 2]? = some (.cells #[.int .i64 2, .string x1, .string x2, .string x3, .string ⟨#[]⟩] 155 (0, 0))) := Lib.hid (heap_setCell (heap_setCell HE3.out _) _)
    have U4 : w3.grownBy ((w3.setCell ⟨w.heap.size + 2, 2, none⟩ (.string x2)).setCell ⟨w.heap.size + 2, 3, none⟩ (.string x3)).drew (some (w.heap.size + 2)) := ((grown_setCell w3 (w.heap.size + 2) 2 (.string x2)).trans (grown_setCell _ (w.heap.size + 2) 3 (.string x3))).trans ⟨rfl, rfl, rfl, Nat.le_refl _, fun _ _ _ => rfl⟩
    have HP4 := Lib.hid ((U4.block (w.heap.size + 1) (lt_of_heap HP3.out) (by intro e; injection e with e; omega)).trans HP3.out)
    have HZ4 := Lib.hid ((U4.block w.heap.size (lt_of_heap HZ3.out) (by intro e; injection e with e; omega)).trans HZ3.out)
    have B4 := Lib.hid (B3.out.grown U4 B3.out.size (by rintro _ ⟨⟩; omega))
    generalize ((w3.setCell ⟨w.heap.size + 2, 2, none⟩ (.string x2)).setCell ⟨w.heap.size + 2, 3, none⟩ (.string x3)).drew = w4 at HE4 HP4 HZ4 B4 ⊢
    clear HE3 HP3 HZ3 B3 f0 f1 f2 f3 f4 ff fz z0 z1 z2 z3 z4
    obtain ⟨f0, f1, f2, f3, f4⟩ := ev_cells HE4.out
    have ff := free_of_heap HE4.out
    have fz := free_of_heap HZ4.out
    obtain ⟨z0, z1, z2, z3, z4⟩ := ev_cells HZ4.out
    clear U4 c2 c3
    go_wp2_with fail
    refine (RT _).mono ?_
    rintro _ w6 ⟨rfl, hx⟩
    have HE6 := Lib.hid (((ext_iff.1 hx).block _ (lt_of_heap HE4.out)).trans HE4.out)
    have HZ6 := Lib.hid (((ext_iff.1 hx).block _ (lt_of_heap HZ4.out)).trans HZ4.out)
    have B6 := Lib.hid (B4.out.trans ((ext_iff.1 hx).mono B4.out.size))
    clear hx HE4 HZ4 B4 HP4 f0 f1 f2 f3 f4 ff fz z0 z1 z2 z3 z4 RT
    obtain ⟨f0, f1, f2, f3, f4⟩ := ev_cells HE6.out
    have fz := free_of_heap HZ6.out
    obtain ⟨z0, z1, z2, z3, z4⟩ := ev_cells HZ6.out
    cases B with
    | false =>
      go_wp2_with fail
      obtain ⟨S5, U5⟩ := set5 HZ6.out (.int .i64 0) (.string ⟨#[]⟩) (.string ⟨#[]⟩) (.string ⟨#[]⟩) (.string ⟨#[]⟩)
      have S5 := Lib.hid S5
      have B5 := Lib.hid (B6.out.grown U5 B6.out.size (by rintro _ ⟨⟩; exact Nat.le_refl _))
      clear U5
      generalize (((((w6.setCell ⟨w.heap.size, 0, none⟩ (.int .i64 0)).setCell ⟨w.heap.size, 1, none⟩ (.string ⟨#[]⟩)).setCell ⟨w.heap.size, 2, none⟩ (.string ⟨#[]⟩)).setCell ⟨w.heap.size, 3, none⟩ (.string ⟨#[]⟩)).setCell ⟨w.heap.size, 4, none⟩ (.string ⟨#[]⟩)) = w5 at S5 B5 ⊢
      exact ret_cells rfl rfl S5.out Tryz.underlying155 rfl (by kernel_rfl) rfl rfl ⟨rfl, ext_of B5.out⟩
    | true =>
      go_wp2_with fail
      obtain ⟨S5, U5⟩ := set5 HZ6.out (.int .i64 2) (.string x1) (.string x2) (.string x3) (.string ⟨#[]⟩)
      have S5 := Lib.hid S5
      have B5 := Lib.hid (B6.out.grown U5 B6.out.size (by rintro _ ⟨⟩; exact Nat.le_refl _))
      clear U5
      generalize (((((w6.setCell ⟨w.heap.size, 0, none⟩ (.int .i64 2)).setCell ⟨w.heap.size, 1, none⟩ (.string x1)).setCell ⟨w.heap.size, 2, none⟩ (.string x2)).setCell ⟨w.heap.size, 3, none⟩ (.string x3)).setCell ⟨w.heap.size, 4, none⟩ (.string ⟨#[]⟩)) = w5 at S5 B5 ⊢
      exact ret_cells rfl rfl S5.out Tryz.underlying155 rfl (by kernel_rfl) rfl rfl ⟨rfl, ext_of B5.out⟩
set_option maxRecDepth 100000 in
set_option maxHeartbeats 4000000 in
theorem parse_gone (s : ByteArray) (w : World) (hs : s.size ≤ 1048576) (hM : MaxL w) (hW : WordsV w) (x0 x1 : ByteArray) (hps : piecesB s = [x0, x1]) (hk : kindOf (txt x0) = 3) (B : Bool) (hB : rightE okV ⟨3, x1, ⟨#[]⟩, ⟨#[]⟩, ⟨#[]⟩⟩ = B) :
    Calls Tryz.prog 90 #[.string s] w fun r w' => r = .returned (if B = true then .tuple #[.agg #[.int .i64 3, .string x1, .string ⟨#[]⟩, .string ⟨#[]⟩, .string ⟨#[]⟩], .nilIface] else .tuple #[.agg #[.int .i64 0, .string ⟨#[]⟩, .string ⟨#[]⟩, .string ⟨#[]⟩, .string ⟨#[]⟩], errV 3]) ∧ ∃ x, w' = ext w x := by
  have hle := piecesB_le s
  rw [hps] at hle
  have RT := fun w => right_any ⟨3, x1, ⟨#[]⟩, ⟨#[]⟩, ⟨#[]⟩⟩ w ⟨Nat.le_trans (hle x1 (by simp)) hs, Nat.zero_le _, Nat.zero_le _⟩
  rw [hB] at RT
  unfold evV at RT
  clear hB hle
  have SP := fun w h => split_any s w hs h
  rw [hps] at SP
  generalize min 5 (s.size + 1) = N at *
  have M := Lib.hid hM
  have WW := Lib.hid hW
  clear hM hW
  have hix : Hid (max (Lib.idxOfS [wordT 0, wordT 1, wordT 2, wordT 3] x0) 0 = 3) := Lib.hid (by rw [index_kind]; exact hk)
  clear hk
  have IX := fun w h => index_any x0 w h
  generalize Lib.idxOfS [wordT 0, wordT 1, wordT 2, wordT 3] x0 = ix at hix IX
  go_enter Tryz.func90, Tryz.ntmps90
  go_wp2_with fail
  refine (SP _ (MaxL_ext M.out (ext_alloc _ (ext_refl w)))).mono ?_
  rintro _ w1 ⟨rfl, rfl⟩
  go_wp2_with fail
  have HZ : Hid ((w.alloc (.cells #[.int .i64 0, .string ⟨#[]⟩, .string ⟨#[]⟩, .string ⟨#[]⟩, .string ⟨#[]⟩] 155)).heap[w.heap.size]? = some (.cells #[.int .i64 0, .string ⟨#[]⟩, .string ⟨#[]⟩, .string ⟨#[]⟩, .string ⟨#[]⟩] 155 (0, 0))) := Lib.hid (heap_alloc_at _ _)
  have BZ := Lib.hid ((Below.refl w.heap.size w).alloc (Nat.le_refl _) (.cells #[.int .i64 0, .string ⟨#[]⟩, .string ⟨#[]⟩, .string ⟨#[]⟩, .string ⟨#[]⟩] 155))
  have WZ := Lib.hid (WordsV_al WW.out (.cells #[.int .i64 0, .string ⟨#[]⟩, .string ⟨#[]⟩, .string ⟨#[]⟩, .string ⟨#[]⟩] 155))
  have ez : (w.alloc (.cells #[.int .i64 0, .string ⟨#[]⟩, .string ⟨#[]⟩, .string ⟨#[]⟩, .string ⟨#[]⟩] 155)).heap.size = w.heap.size + 1 := by simp
  generalize w.alloc (.cells #[.int .i64 0, .string ⟨#[]⟩, .string ⟨#[]⟩, .string ⟨#[]⟩, .string ⟨#[]⟩] 155) = wz at HZ BZ WZ ez ⊢
  have HP := Lib.hid (heap_alloc_at wz (.cells (Lib.cellsOf [x0, x1] N) 9))
  rw [ez] at HP
  have HZ1 := Lib.hid ((heap_alloc_old wz (.cells (Lib.cellsOf [x0, x1] N) 9) (lt_of_heap HZ.out)).trans HZ.out)
  have B1 := Lib.hid (BZ.out.alloc BZ.out.size (.cells (Lib.cellsOf [x0, x1] N) 9))
  have W1 := Lib.hid (WordsV_al WZ.out (.cells (Lib.cellsOf [x0, x1] N) 9))
  have e1 : (wz.alloc (.cells (Lib.cellsOf [x0, x1] N) 9)).heap.size = w.heap.size + 2 := by simp [ez]
  generalize wz.alloc (.cells (Lib.cellsOf [x0, x1] N) 9) = w1 at HP HZ1 B1 W1 e1 ⊢
  clear HZ BZ WZ ez
  have c0 : w1.cell? ⟨w.heap.size + 1, 0, none⟩ = some (.string x0) := cells_pieces HP.out 0 (by first | omega | simp)
  go_region_held3 (fun w' => WordsV w' ∧ w'.cell? ⟨w.heap.size + 1, 0, none⟩ = some (.string x0))
    (refine ⟨?_, ?_⟩ <;> first | exact WordsV_dr W1.out | exact WordsV_al (WordsV_dr W1.out) _ | simp [*, World.cell?_alloc_some])
    (first | (go_at_call 119; refine (IX _ ?_).mono ?_; (first | exact WordsV_dr W1.out | exact WordsV_al (WordsV_dr W1.out) _); rintro _ _ ⟨rfl, rfl⟩))
  all_goals
    rw [hix.out]
    have HE : Hid ((w1.alloc (.cells #[.int .i64 3, .string ⟨#[]⟩, .string ⟨#[]⟩, .string ⟨#[]⟩, .string ⟨#[]⟩] 155)).drew.heap[w.heap.size + 2]? = some (.cells #[.int .i64 3, .string ⟨#[]⟩, .string ⟨#[]⟩, .string ⟨#[]⟩, .string ⟨#[]⟩] 155 (0, 0))) := Lib.hid (by rw [← e1]; exact heap_alloc_at w1 _)
    have HP2 := Lib.hid ((show (w1.alloc (.cells #[.int .i64 3, .string ⟨#[]⟩, .string ⟨#[]⟩, .string ⟨#[]⟩, .string ⟨#[]⟩] 155)).drew.heap[w.heap.size + 1]? = _ from heap_alloc_old w1 _ (lt_of_heap HP.out)).trans HP.out)
    have HZ2 := Lib.hid ((show (w1.alloc (.cells #[.int .i64 3, .string ⟨#[]⟩, .string ⟨#[]⟩, .string ⟨#[]⟩, .string ⟨#[]⟩] 155)).drew.heap[w.heap.size]? = _ from heap_alloc_old w1 _ (lt_of_heap HZ1.out)).trans HZ1.out)
    have B2 := Lib.hid ((B1.out.alloc B1.out.size (.cells #[.int .i64 3, .string ⟨#[]⟩, .string ⟨#[]⟩, .string ⟨#[]⟩, .string ⟨#[]⟩] 155)).drew)
    generalize (w1.alloc (.cells #[.int .i64 3, .string ⟨#[]⟩, .string ⟨#[]⟩, .string ⟨#[]⟩, .string ⟨#[]⟩] 155)).drew = w2 at HE HP2 HZ2 B2 ⊢
    clear HP HZ1 B1 W1 e1 c0 WW M SP IX hps
    have hmany := many_at3
    obtain ⟨f0, f1, f2, f3, f4⟩ := ev_cells HE.out
    have ff := free_of_heap HE.out
    have fz := free_of_heap HZ2.out
    obtain ⟨z0, z1, z2, z3, z4⟩ := ev_cells HZ2.out
    have c1 := cells_pieces HP2.out 1 (by simp)
    rw [show ([x0, x1] : List ByteArray)[1] = x1 from rfl] at c1
    go_wp2_with fail
    have HE2 := HE
    clear HE
    have HE5 : Hid ((w2.setCell ⟨w.heap.size + 2, 1, none⟩ (.string x1)).heap[w.heap.size + 2]? = some (.cells #[.int .i64 3, .string x1, .string ⟨#[]⟩, .string ⟨#[]⟩, .string ⟨#[]⟩] 155 (0, 0))) := Lib.hid (heap_setCell HE2.out _)
    have U5 := grown_setCell w2 (w.heap.size + 2) 1 (.string x1)
    have HP5 := Lib.hid ((U5.block (w.heap.size + 1) (lt_of_heap HP2.out) (by intro e; injection e with e; omega)).trans HP2.out)
    have HZ5 := Lib.hid ((U5.block w.heap.size (lt_of_heap HZ2.out) (by intro e; injection e with e; omega)).trans HZ2.out)
    have B5 := Lib.hid (B2.out.grown U5 B2.out.size (by rintro _ ⟨⟩; omega))
    generalize w2.setCell ⟨w.heap.size + 2, 1, none⟩ (.string x1) = w5 at HE5 HP5 HZ5 B5 ⊢
    clear HE2 HP2 HZ2 B2 f0 f1 f2 f3 f4 ff fz z0 z1 z2 z3 z4
    obtain ⟨f0, f1, f2, f3, f4⟩ := ev_cells HE5.out
    have ff := free_of_heap HE5.out
    have fz := free_of_heap HZ5.out
    obtain ⟨z0, z1, z2, z3, z4⟩ := ev_cells HZ5.out
    clear U5 c1
    refine (RT _).mono ?_
    rintro _ w6 ⟨rfl, hx⟩
    have HE6 := Lib.hid (((ext_iff.1 hx).block _ (lt_of_heap HE5.out)).trans HE5.out)
    have HZ6 := Lib.hid (((ext_iff.1 hx).block _ (lt_of_heap HZ5.out)).trans HZ5.out)
    have B6 := Lib.hid (B5.out.trans ((ext_iff.1 hx).mono B5.out.size))
    clear hx HE5 HZ5 B5 HP5 f0 f1 f2 f3 f4 ff fz z0 z1 z2 z3 z4 RT
    obtain ⟨f0, f1, f2, f3, f4⟩ := ev_cells HE6.out
    have fz := free_of_heap HZ6.out
    obtain ⟨z0, z1, z2, z3, z4⟩ := ev_cells HZ6.out
    cases B with
    | false =>
      go_wp2_with fail
      obtain ⟨S5, U5⟩ := set5 HZ6.out (.int .i64 0) (.string ⟨#[]⟩) (.string ⟨#[]⟩) (.string ⟨#[]⟩) (.string ⟨#[]⟩)
      have S5 := Lib.hid S5
      have B5 := Lib.hid (B6.out.grown U5 B6.out.size (by rintro _ ⟨⟩; exact Nat.le_refl _))
      clear U5
      generalize (((((w6.setCell ⟨w.heap.size, 0, none⟩ (.int .i64 0)).setCell ⟨w.heap.size, 1, none⟩ (.string ⟨#[]⟩)).setCell ⟨w.heap.size, 2, none⟩ (.string ⟨#[]⟩)).setCell ⟨w.heap.size, 3, none⟩ (.string ⟨#[]⟩)).setCell ⟨w.heap.size, 4, none⟩ (.string ⟨#[]⟩)) = w5 at S5 B5 ⊢
      exact ret_cells rfl rfl S5.out Tryz.underlying155 rfl (by kernel_rfl) rfl rfl ⟨rfl, ext_of B5.out⟩
    | true =>
      go_wp2_with fail
      obtain ⟨S5, U5⟩ := set5 HZ6.out (.int .i64 3) (.string x1) (.string ⟨#[]⟩) (.string ⟨#[]⟩) (.string ⟨#[]⟩)
      have S5 := Lib.hid S5
      have B5 := Lib.hid (B6.out.grown U5 B6.out.size (by rintro _ ⟨⟩; exact Nat.le_refl _))
      clear U5
      generalize (((((w6.setCell ⟨w.heap.size, 0, none⟩ (.int .i64 3)).setCell ⟨w.heap.size, 1, none⟩ (.string x1)).setCell ⟨w.heap.size, 2, none⟩ (.string ⟨#[]⟩)).setCell ⟨w.heap.size, 3, none⟩ (.string ⟨#[]⟩)).setCell ⟨w.heap.size, 4, none⟩ (.string ⟨#[]⟩)) = w5 at S5 B5 ⊢
      exact ret_cells rfl rfl S5.out Tryz.underlying155 rfl (by kernel_rfl) rfl rfl ⟨rfl, ext_of B5.out⟩
end Go.Proofs.YtnkmckdefiblhaaGreatDoor
