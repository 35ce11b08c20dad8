/- event.Right (the walk; printed by wip/bin/gen_right.py). · cmp.Compare, cmp.Or, table.Compare (the walks). · A table's map in memory, as rows. -/
import Derived.Test.YtnmpchojhbmbmaaGreatDoorProg
import Derived.Test.YtnmpchojhbmbmaaGreatDoorName
import Derived.Test.YtnmpchojhbmbmaaGreatDoorEventL
import Derived.Test.YtnmpchojhbmbmaaGreatDoorShelfE
import Derived.Test.YtnmpchojhbmbmaaGreatDoorCellL
import Derived.Test.YtnmpchojhbmbmaaGreatDoorBase
import Derived.Maps.Own
import Derived.Maps.OwnSet
import Derived.Maps.Views
import Derived.Maps.RangeWalk
import Derived.DeepKeys4
namespace Go.Proofs.YtnmpchojhbmbmaaGreatDoor
open Go.RowKit

/-- An event's cells. -/
def evV (e : Ev) : Array Value := #[.int .i64 e.kind, .string e.subject, .string e.table, .string e.row, .string e.value]
theorem ev_cells {w : World} {b : Nat} {k : Int} {s t r v : ByteArray} {y : TypeId} {f : Nat × Nat} (h : w.heap[b]? = some (.cells #[.int .i64 k, .string s, .string t, .string r, .string v] y f)) :
    w.cell? ⟨b, 0, none⟩ = some (.int .i64 k) ∧ w.cell? ⟨b, 1, none⟩ = some (.string s) ∧ w.cell? ⟨b, 2, none⟩ = some (.string t) ∧ w.cell? ⟨b, 3, none⟩ = some (.string r) ∧ w.cell? ⟨b, 4, none⟩ = some (.string v) := by
  refine ⟨?_, ?_, ?_, ?_, ?_⟩ <;> (rw [cell_in, h]; rfl)
/-- A rune that no value has. -/
def badRune (x : Nat) : Bool := decide ((x : Int) < 32) || decide ((126 : Int) < x)
def okV (l : List UInt8) : Bool := !decide (0 ≤ Lib.idxFunc badRune true (mkT l))
def Res (b : Bool) (w : World) (r : Ending) (w' : World) : Prop := r = .returned (.bool b) ∧ ∃ x, w' = ext w x
theorem isEmpty_is (s : ByteArray) : s.toList.isEmpty = decide (s.size = 0) := by
  have hl : s.data.toList.length = s.size := by rw [Array.length_toList]; rfl
  rw [Lib.toList_data]
  cases h : s.data.toList with
  | nil => rw [h] at hl; rw [← hl]; rfl
  | cons a l => rw [h] at hl; rw [← hl]; rfl
end Go.Proofs.YtnmpchojhbmbmaaGreatDoor
namespace Go.Proofs.YtnmpchojhbmbmaaGreatDoor
open Go.RowKit

set_option maxRecDepth 100000 in
theorem nan_any (x : ByteArray) (w : World) : Calls Tryz.prog 88 #[.string x] w fun e w' => e = .returned (.bool false) ∧ w' = w := by
  go_enter Tryz.func88, Tryz.ntmps88
  go_wp2_with fail
  go_ret
  exact ⟨by simp, rfl⟩
/-- A row's cells. -/
def cellVs (c : Cell) : List Value := [.string c.table, .string c.row, .string c.subject, .string c.value]
def cellA (c : Cell) : Array Value := #[.string c.table, .string c.row, .string c.subject, .string c.value]
theorem cell_cells {w : World} {b : Nat} {c : Cell} {t : TypeId} {f : Nat × Nat} (h : w.heap[b]? = some (.cells (cellA c) t f)) :
    w.cell? ⟨b, 0, none⟩ = some (.string c.table) ∧ w.cell? ⟨b, 1, none⟩ = some (.string c.row) ∧ w.cell? ⟨b, 2, none⟩ = some (.string c.subject) ∧ w.cell? ⟨b, 3, none⟩ = some (.string c.value) := by
  refine ⟨?_, ?_, ?_, ?_⟩ <;> (rw [cell_in, h]; rfl)
end Go.Proofs.YtnmpchojhbmbmaaGreatDoor
namespace Go.Proofs.YtnmpchojhbmbmaaGreatDoor
open Go.RowKit Go.WideShapes

/-- A row's place as a key. -/
def keyLit (k : List UInt8 × List UInt8) : Lit := .string (keyBytes [.string k.1, .string k.2])
def cellD (c : Cell) : DataW Unit := .agg [.lit (.string (txt c.table)), .lit (.string (txt c.row)), .lit (.string (txt c.subject)), .lit (.string (txt c.value))]
/-- How a row reads. -/
def cellR : Value → Option (DataW Unit × List MemPlace)
  | .agg cs => match cs.toList with
    | [.string a, .string b, .string c, .string d] => some (cellD ⟨a, b, c, d⟩, [])
    | _ => none
  | _ => none
theorem cellR_mk (c : Cell) : cellR (.agg (cellA c)) = some (cellD c, []) := rfl
theorem cellR_inv {v : Value} {y : DataW Unit × List MemPlace} (h : cellR v = some y) : ∃ c, v = .agg (cellA c) ∧ y = (cellD c, []) := by
  unfold cellR at h
  split at h
  · rename_i cs
    split at h
    · rename_i a b c d e
      injection h with h
      refine ⟨⟨a, b, c, d⟩, ?_, h.symm⟩
      have : cs = #[.string a, .string b, .string c, .string d] := by rw [← Array.toList_inj]; exact e
      rw [this]; rfl
    · cases h
  · cases h
theorem cellD_inj {c d : Cell} (h : cellD c = cellD d) : c = d := by
  unfold cellD at h
  simp only [DataW.agg.injEq, List.cons.injEq, DataW.lit.injEq, Lit.string.injEq, and_true] at h
  exact cell_ext (Prod.ext h.1 h.2.1) h.2.2.1 h.2.2.2
def smallC (c : Cell) : Prop := c.table.size ≤ maxLen ∧ c.row.size ≤ maxLen
def ent (c : Cell) : Lit × DataW Unit := (keyLit (ck c), cellD c)
theorem sameKey_lit (k k' : List UInt8 × List UInt8) : (keyLit k).sameKey (keyLit k') = true ↔ keyLit k = keyLit k' := by
  unfold keyLit Lit.sameKey
  simp
end Go.Proofs.YtnmpchojhbmbmaaGreatDoor
