/- cmp.Compare, cmp.Or, table.Compare (the walks). -/
import Derived.Test.YtcbcknfhblamfaaGreatDoorProg
import Derived.Test.YtcbcknfhblamfaaGreatDoorCellL
import Derived.Test.YtcbcknfhblamfaaGreatDoorBase
import Derived.Test.YtcbcknfhblamfaaGreatDoorEvRight
namespace Go.Proofs.YtcbcknfhblamfaaGreatDoor
open Go.RowKit

set_option maxRecDepth 100000 in
theorem nan_any (x : ByteArray) (w : World) : Calls Tryz.prog 66 #[.string x] w fun e w' => e = .returned (.bool false) ∧ w' = w := by
  go_enter Tryz.func66, Tryz.ntmps66
  go_wp2_with fail
  go_ret
  exact ⟨by simp, rfl⟩
set_option maxRecDepth 100000 in
theorem compare_any (x y : ByteArray) (w : World) : Calls Tryz.prog 33 #[.string x, .string y] w fun e w' => e = .returned (.int .i64 (cmpL (txt x) (txt y))) ∧ w' = w := by
  have hx : x.toList = txt x := ByteArray.toList_eq x
  have hy : y.toList = txt y := ByteArray.toList_eq y
  have h1 : Hid (Op.bytesLess x.toList y.toList = true → cmpL (txt x) (txt y) = -1) := Lib.hid fun h => by unfold cmpL; rw [← hx, ← hy, if_pos h]
  have h2 : Hid (Op.bytesLess x.toList y.toList = false → (!x.toList == y.toList) = true → cmpL (txt x) (txt y) = 1) := Lib.hid fun h h' => by
    unfold cmpL; rw [← hx, ← hy, if_neg (by rw [h]; simp), if_neg (by simpa using h')]
  have h3 : Hid (Op.bytesLess x.toList y.toList = false → (!x.toList == y.toList) = false → cmpL (txt x) (txt y) = 0) := Lib.hid fun h h' => by
    unfold cmpL; rw [← hx, ← hy, if_neg (by rw [h]; simp), if_pos (by simpa using h')]
  clear hx hy
  go_enter Tryz.func33, Tryz.ntmps33
  go_wp2_with fail
  refine (nan_any _ _).mono ?_
  rintro _ w2 ⟨rfl, rfl⟩
  go_wp2_with fail
  refine (nan_any _ _).mono ?_
  rintro _ w3 ⟨rfl, rfl⟩
  cases hb : Op.bytesLess x.toList y.toList with
  | true =>
    have HE := Lib.hid (h1.out hb)
    clear h1 h2 h3
    go_wp2_with fail
    go_ret
    exact ⟨by rw [HE.out]; rfl, rfl⟩
  | false =>
    cases he : (!x.toList == y.toList) with
    | true =>
      have HE := Lib.hid (h2.out hb he)
      clear h1 h2 h3
      go_wp2_with fail
      go_ret
      exact ⟨by rw [HE.out]; rfl, rfl⟩
    | false =>
      have HE := Lib.hid (h3.out hb he)
      clear h1 h2 h3
      go_wp2_with fail
      go_ret
      exact ⟨by rw [HE.out]; rfl, rfl⟩
set_option maxRecDepth 100000 in
theorem or_any (a b : Int) (g : Nat) (w : World) (h : w.heap[g]? = some (.cells #[.int .i64 a, .int .i64 b] 3 (0, 0))) :
    Calls Tryz.prog 32 #[.slice (some ⟨g, 0, none⟩) 2 2] w fun e w' => e = .returned (.int .i64 (if a = 0 then b else a)) ∧ w' = w := by
  have c0 : w.cell? ⟨g, 0, none⟩ = some (.int .i64 a) := by rw [cell_in, h]; rfl
  have c1 : w.cell? ⟨g, 1, none⟩ = some (.int .i64 b) := by rw [cell_in, h]; rfl
  clear h
  go_enter Tryz.func32, Tryz.ntmps32
  go_wp2_with fail
  go_loopw [8] (fun iv wr => ∃ k : Nat, k ≤ 2 ∧ iv = .int .i64 k ∧ (1 ≤ k → a = 0) ∧ (2 ≤ k → b = 0) ∧ wr = w) (fun iv _ => 2 - (intOf iv).toNat)
  case atStart => exact ⟨0, Nat.zero_le _, rfl, fun h => absurd h (by decide), fun h => absurd h (by decide), rfl⟩
  case round =>
    obtain ⟨k, hk, rfl, ha, hb, rfl⟩ := hrel
    obtain rfl | rfl | rfl : k = 0 ∨ k = 1 ∨ k = 2 := by omega
    · by_cases z : a = 0
      · have hz : (a != 0) = false := by simp [z]
        go_wp2_with fail
        go_roundw
        case rel => exact ⟨1, by omega, by rfl, fun _ => z, fun h => absurd h (by decide), by first | rfl | trivial⟩
        case measure => simp [intOf]
      · have hz : (a != 0) = true := by simp [z]
        clear ha hb
        go_wp2_with fail
        go_ret
        exact ⟨by first | rfl | (rw [if_neg z]; rfl), rfl⟩
    · have z := ha (by decide)
      by_cases y : b = 0
      · have hz : (b != 0) = false := by simp [y]
        clear ha hb
        go_wp2_with fail
        go_roundw
        case rel => exact ⟨2, by omega, by rfl, fun _ => z, fun _ => y, by first | rfl | trivial⟩
        case measure => simp [intOf]
      · have hz : (b != 0) = true := by simp [y]
        clear ha hb
        go_wp2_with fail
        go_ret
        exact ⟨rfl, rfl⟩
    · have z := ha (by decide)
      have y := hb (by decide)
      clear ha hb
      have z := Lib.hid z
      have y := Lib.hid y
      go_wp2_with fail
      go_ret
      exact ⟨by first | rfl | (rw [if_pos z.out, y.out]; rfl), rfl⟩

/-- A row's cells. -/
def cellVs (c : Cell) : List Value := [.string c.table, .string c.row, .string c.subject, .string c.value]
def cellA (c : Cell) : Array Value := #[.string c.table, .string c.row, .string c.subject, .string c.value]
theorem cell_cells {w : World} {b : Nat} {c : Cell} {t : TypeId} {f : Nat × Nat} (h : w.heap[b]? = some (.cells (cellA c) t f)) :
    w.cell? ⟨b, 0, none⟩ = some (.string c.table) ∧ w.cell? ⟨b, 1, none⟩ = some (.string c.row) ∧ w.cell? ⟨b, 2, none⟩ = some (.string c.subject) ∧ w.cell? ⟨b, 3, none⟩ = some (.string c.value) := by
  refine ⟨?_, ?_, ?_, ?_⟩ <;> (rw [cell_in, h]; rfl)
set_option maxRecDepth 100000 in
set_option maxHeartbeats 1000000 in
theorem tcompare_any (c d : Cell) (w : World) :
    Calls Tryz.prog 20 #[.agg (cellA c), .agg (cellA d)] w fun e w' => e = .returned (.int .i64 (ccmp c d)) ∧ ∃ x, w' = ext w x := by
  have C1 := fun w => compare_any c.table d.table w
  have C2 := fun w => compare_any c.row d.row w
  have HE : Hid (ccmp c d = if cmpL (txt c.table) (txt d.table) = 0 then cmpL (txt c.row) (txt d.row) else cmpL (txt c.table) (txt d.table)) := Lib.hid rfl
  generalize cmpL (txt c.table) (txt d.table) = a at C1 HE
  generalize cmpL (txt c.row) (txt d.row) = b at C2 HE
  generalize ccmp c d = r at HE
  unfold cellA
  obtain ⟨t, o, s, v⟩ := c
  obtain ⟨t', o', s', v'⟩ := d
  dsimp only at C1 C2 ⊢
  go_enter Tryz.func20, Tryz.ntmps20
  go_wp2_with fail
  have H0 : Hid ((w.alloc (.cells #[.string t, .string o, .string s, .string v] 44)).heap[w.heap.size]? = some (.cells (cellA ⟨t, o, s, v⟩) 44 (0, 0))) := Lib.hid (heap_alloc_at _ _)
  have X0 := Lib.hid (ext_alloc (.cells #[.string t, .string o, .string s, .string v] 44) (ext_refl w))
  have e0 : (w.alloc (.cells #[.string t, .string o, .string s, .string v] 44)).heap.size = w.heap.size + 1 := by simp
  generalize w.alloc (.cells #[.string t, .string o, .string s, .string v] 44) = w0 at H0 X0 e0 ⊢
  have H1 : Hid ((w0.alloc (.cells #[.string t', .string o', .string s', .string v'] 44)).heap[w.heap.size + 1]? = some (.cells (cellA ⟨t', o', s', v'⟩) 44 (0, 0))) := Lib.hid (by rw [← e0]; exact heap_alloc_at _ _)
  have H01 := Lib.hid ((heap_alloc_old w0 (.cells #[.string t', .string o', .string s', .string v'] 44) (lt_of_heap H0.out)).trans H0.out)
  have X1 := Lib.hid (ext_alloc (.cells #[.string t', .string o', .string s', .string v'] 44) X0.out)
  generalize w0.alloc (.cells #[.string t', .string o', .string s', .string v'] 44) = w1 at H1 H01 X1 ⊢
  clear H0 X0 e0
  obtain ⟨c0, c1, c2, c3⟩ := cell_cells H01.out
  obtain ⟨d0, d1, d2, d3⟩ := cell_cells H1.out
  have lw1 := lt_of_heap H1.out
  dsimp only at c0 c1 c2 c3 d0 d1 d2 d3
  refine wp_region_tail 10 (by kernel_rfl) (by kernel_rfl) ?_
  simp only [List.take_succ_cons, List.take_zero, List.drop_succ_cons, List.drop_zero]
  iterate 5 (go_big_quiet_step ((go_at_call 33; refine (C1 _).mono ?_; rintro _ _ ⟨rfl, rfl⟩; exact ⟨rfl, ⟨_, rfl⟩⟩)))
  repeat (go_big_quiet_step ((go_at_call 33; refine (C2 _).mono ?_; rintro _ _ ⟨rfl, rfl⟩; exact ⟨rfl, ⟨_, rfl⟩⟩)))
  refine wpQuiet_nil ?_
  rintro _ ⟨x, rfl⟩
  have X2 := Lib.hid (ext_trans X1.out ⟨x, rfl⟩)
  generalize ext w1 x = w2 at X2 ⊢
  clear H1 H01 X1 c0 c1 c2 c3 d0 d1 d2 d3 lw1
  have HS := heap_alloc_at w2 (.cells #[.int .i64 a, .int .i64 b] 3)
  have X3 := Lib.hid (ext_alloc (.cells #[.int .i64 a, .int .i64 b] 3) X2.out)
  go_wp2_with fail
  refine (or_any a b _ _ HS).mono ?_
  rintro _ w3 ⟨rfl, rfl⟩
  rw [← HE.out]
  clear HS
  go_wp2_with fail
  go_ret
  exact ⟨rfl, X3.out⟩
end Go.Proofs.YtcbcknfhblamfaaGreatDoor
