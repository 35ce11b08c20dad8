/- (*table.Table).Get (the walk). -/
import Derived.Test.YtjjadgcpmfmlfaaDoorProg
import Derived.Test.YtjjadgcpmfmlfaaDoorApply
import Derived.Test.YtjjadgcpmfmlfaaDoorEvParse
namespace Go.Proofs.YtjjadgcpmfmlfaaDoor
open Go.RowKit

theorem set4c {w : World} {b : Nat} {V : Array Value} {t : TypeId} (hs : V.size = 4) (h : w.heap[b]? = some (.cells V t (0, 0))) (c : Cell) :
    ((((w.setCell ⟨b, 0, none⟩ (.string c.table)).setCell ⟨b, 1, none⟩ (.string c.row)).setCell ⟨b, 2, none⟩ (.string c.subject)).setCell ⟨b, 3, none⟩ (.string c.value)).heap[b]? = some (.cells (cellA c) t (0, 0)) ∧
    w.grownBy ((((w.setCell ⟨b, 0, none⟩ (.string c.table)).setCell ⟨b, 1, none⟩ (.string c.row)).setCell ⟨b, 2, none⟩ (.string c.subject)).setCell ⟨b, 3, none⟩ (.string c.value)) (some b) := by
  obtain ⟨v0, v1, v2, v3, rfl⟩ : ∃ v0 v1 v2 v3, V = #[v0, v1, v2, v3] := by
    obtain ⟨l⟩ := V
    match l, hs with
    | [a, b, c, d], _ => exact ⟨a, b, c, d, rfl⟩
  refine ⟨?_, ?_⟩
  · exact heap_setCell (heap_setCell (heap_setCell (heap_setCell h _) _) _) _
  · exact (((grown_setCell _ _ _ _).trans (grown_setCell _ _ _ _)).trans (grown_setCell _ _ _ _)).trans (grown_setCell _ _ _ _)
def answG (k : List UInt8 × List UInt8) (T : List Cell) : Value := if (findT k T).isSome = true then .tuple #[.agg (cellA ((findT k T).getD zeroC)), .nilIface] else .tuple #[.agg (cellA zeroC), errV 7]
theorem tabAt.look_ok {w : World} {tb : Nat} {mb : Option Nat} {n : Nat} {T : List Cell} (h : tabAt w tb mb n T) {t r : ByteArray} (ht : t.size ≤ maxLen) (hr : r.size ≤ maxLen) :
    (Instr.lookup 73 (.map mb) (.agg #[.string t, .string r]) true).run Tryd.prog w = .ok (.tuple #[.agg (cellA ((findT (txt t, txt r) T).getD zeroC)), .bool (findT (txt t, txt r) T).isSome]) w := by
  cases mb with
  | some b => exact (h.map b rfl).look_ok ht hr
  | none =>
    rw [h.nil rfl]
    exact Maps.look_nil true lawA Tryd.underlying73 (zeroCell w) (key_of t r ht hr)
set_option maxRecDepth 100000 in
set_option maxHeartbeats 4000000 in
theorem get_any (t r : ByteArray) (w : World) (tb : Nat) (mb : Option Nat) (n : Nat) (T : List Cell) (h : tabAt w tb mb n T) (ht : t.size ≤ maxLen) (hr : r.size ≤ maxLen) :
    Calls Tryd.prog 57 #[.pointer (some ⟨tb, 0, none⟩), .string t, .string r] w fun x w' => x = .returned (answG (txt t, txt r) T) ∧ ∃ x, w' = ext w x := by
  have HA : Hid (answG (txt t, txt r) T = if (findT (txt t, txt r) T).isSome = true then .tuple #[.agg (cellA ((findT (txt t, txt r) T).getD zeroC)), .nilIface] else .tuple #[.agg (cellA zeroC), errV 7]) := Lib.hid rfl
  have T0 := Lib.hid (h.kept (World.grownBy_alloc w (.cells #[.string ⟨#[]⟩, .string ⟨#[]⟩, .string ⟨#[]⟩, .string ⟨#[]⟩] 81) none) (by simp) (fun _ _ => by simp))
  have hlk := T0.out.look_ok ht hr
  have ct := cell1 T0.out.blk
  clear h
  generalize answG (txt t, txt r) T = A at HA ⊢
  generalize (findT (txt t, txt r) T).isSome = f at HA hlk
  generalize (findT (txt t, txt r) T).getD zeroC = c at HA hlk
  obtain ⟨c1, c2, c3, c4⟩ := c
  unfold cellA at hlk
  dsimp only at hlk
  have H0 := Lib.hid (heap_alloc_at w (.cells #[.string ⟨#[]⟩, .string ⟨#[]⟩, .string ⟨#[]⟩, .string ⟨#[]⟩] 81))
  have B0 := Lib.hid ((Below.refl w.heap.size w).alloc (Nat.le_refl _) (.cells #[.string ⟨#[]⟩, .string ⟨#[]⟩, .string ⟨#[]⟩, .string ⟨#[]⟩] 81))
  have s0 : (w.alloc (.cells #[.string ⟨#[]⟩, .string ⟨#[]⟩, .string ⟨#[]⟩, .string ⟨#[]⟩] 81)).heap.size = w.heap.size + 1 := by simp
  have H1 := Lib.hid ((heap_alloc_old (w.alloc (.cells #[.string ⟨#[]⟩, .string ⟨#[]⟩, .string ⟨#[]⟩, .string ⟨#[]⟩] 81)) (.cells #[.string c1, .string c2, .string c3, .string c4] 81) (lt_of_heap H0.out)).trans H0.out)
  have Y1 := Lib.hid (heap_alloc_at (w.alloc (.cells #[.string ⟨#[]⟩, .string ⟨#[]⟩, .string ⟨#[]⟩, .string ⟨#[]⟩] 81)) (.cells #[.string c1, .string c2, .string c3, .string c4] 81))
  rw [s0] at Y1
  have B1 := Lib.hid (B0.out.alloc B0.out.size (.cells #[.string c1, .string c2, .string c3, .string c4] 81))
  obtain ⟨z0, z1, z2, z3⟩ := cell_cells (c := zeroC) H1.out
  unfold zeroC at z0 z1 z2 z3
  obtain ⟨y0, y1, y2, y3⟩ := cell_cells (c := ⟨c1, c2, c3, c4⟩) Y1.out
  have fz := free_of_heap H1.out
  dsimp only at z0 z1 z2 z3 y0 y1 y2 y3
  clear H0 B0 Y1
  go_enter Tryd.func57, Tryd.ntmps57
  cases f with
  | true =>
    have hA : Hid (A = .tuple #[.agg (cellA ⟨c1, c2, c3, c4⟩), .nilIface]) := Lib.hid (HA.out.trans (if_pos rfl))
    go_wp2_with fail
    exact ret_cells rfl rfl ((heap_alloc_old _ _ (by simp)).trans (heap_alloc_at w _)) Tryd.underlying81 rfl (by kernel_rfl) rfl rfl ⟨congrArg Ending.returned hA.out.symm, ext_alloc _ (ext_alloc _ (ext_refl w))⟩
  | false =>
    have hA : Hid (A = .tuple #[.agg (cellA zeroC), errV 7]) := Lib.hid (HA.out.trans (if_neg (by simp)))
    go_wp2_with fail
    exact ret_cells rfl rfl ((heap_alloc_old _ _ (by simp)).trans (heap_alloc_at w _)) Tryd.underlying81 rfl (by kernel_rfl) rfl rfl ⟨congrArg Ending.returned hA.out.symm, ext_alloc _ (ext_alloc _ (ext_refl w))⟩
end Go.Proofs.YtjjadgcpmfmlfaaDoor
