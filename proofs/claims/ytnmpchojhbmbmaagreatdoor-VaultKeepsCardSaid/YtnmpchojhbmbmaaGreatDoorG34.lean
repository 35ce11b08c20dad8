/- Arguments as data: slices of texts, bytes, in the walks' words. · What is laid over a world is met there (apart from the events' lists). -/
import Derived.Test.YtnmpchojhbmbmaaGreatDoorProg
import Derived.Test.YtnmpchojhbmbmaaGreatDoorG8
import Derived.SliceStrings
import Derived.Carry
import Derived.ProofKit
import Derived.Test.YtnmpchojhbmbmaaGreatDoorRows
import Derived.Lib.SmallJoins
import Derived.Lib.LaidTab
import Derived.Stop.LaidErr
import Derived.Shelf.Vars
import Derived.Handed
import Derived.Lay
namespace Go.Proofs.YtnmpchojhbmbmaaGreatDoor
open Go.ChangeShapes Go.WideShapes Go.ChangeAt Go.RowKit

theorem laidOut : laidOutB Tryz.prog = true := by kernel_rfl
theorem byte_int {n : Int} (h : (Lit.int .u8 n).wf = true) : ∃ b : UInt8, n = (b.toNat : Int) := by
  have h2 : 0 ≤ n ∧ n ≤ 255 := by
    simp only [Lit.wf, Bool.and_eq_true, decide_eq_true_eq] at h
    exact ⟨h.1, h.2⟩
  refine ⟨UInt8.ofNat n.toNat, ?_⟩
  rw [UInt8.toNat_ofNat']; omega
/-- A slice of texts is a list of them. -/
theorem texts_of_Trod {H : Type} {enc : TypeId × Value → H} {W : World} {q : Option Addr} {l c : Nat} {d : DataW H} {p : List MemPlace} (h : DataW.Trod enc Tryz.prog W 0 (fun _ => true) true 49 (.slice q l c) d p) :
    ∃ ps : List ByteArray, l = ps.length ∧ textsAt W q ps := by
  obtain ⟨fuel, hf⟩ := h
  rcases open_strings Tryz.underlying49 Tryz.underlying9 (by kernel_rfl) hf with ⟨hcs, hx⟩ | ⟨a, len', cap', ss, hcs, _, hl, hm, hz, hx, hcell, hwz⟩
  · simp [Value.cells] at hcs
    obtain ⟨rfl, rfl, rfl⟩ := hcs
    exact ⟨[], rfl, fun j s hj => by simp at hj⟩
  · simp [Value.cells] at hcs
    obtain ⟨rfl, rfl, rfl⟩ := hcs
    simp only [if_true] at hz
    refine ⟨ss.take l, by rw [List.length_take]; omega, ?_⟩
    intro j s hj
    have hjl : j < l := by
      have := (List.getElem?_eq_some_iff.1 hj).1
      rw [List.length_take] at this; omega
    rw [List.getElem?_take_of_lt hjl] at hj
    obtain ⟨b, off, spot⟩ := a
    have hspot : spot = none := by simpa [Addr.add] using World.cell?_spot (hcell 0 (by omega))
    subst hspot
    have hc := hcell j (by omega)
    rw [add_flat', List.getD_eq_getElem?_getD, hj] at hc
    exact ⟨b, off, rfl, block_lt_of_cell hc, hc⟩
end Go.Proofs.YtnmpchojhbmbmaaGreatDoor
namespace Go.Proofs.YtnmpchojhbmbmaaGreatDoor
open Go.ChangeShapes Go.WideShapes Go.ChangeAt Go.RowKit

/-- What is laid over a world is met there. -/
theorem laid_over' {P : Program} {w0 : World} {l : List (String × DataW Unit)} (args : Array Value) (fits : w0.layFits P l [] = true) (ifs : w0.layIfaces P l (w0.layVars P l) = true) : laidMet P l ((w0.layVars P l).forCall (fun _ _ => 0) ⟨#[], args, []⟩).memory := by
  have all : (l.filter fun x => (l.map (·.1)).contains x.1) = l := by
    rw [List.filter_eq_self]
    intro x hx
    exact List.contains_iff_mem.2 (List.mem_map_of_mem hx)
  have no : (l.filter fun x => !(l.map (·.1)).contains x.1) = [] := by
    rw [List.filter_eq_nil_iff]
    intro x hx
    rw [List.contains_iff_mem.2 (List.mem_map_of_mem hx)]
    simp
  have met : laidMet P l (w0.layVars P l) := by
    refine laidMet_layVars (w0 := w0) (l.map (·.1)) [] ?_ ?_ ?_ ?_
    · rw [all]
    · rw [all]; exact fits
    · rw [all]; exact ifs
    · rw [no]; exact LaidIn.none
  exact met.of_heap (by simp [World.memory, World.forCall, Input.heap])
end Go.Proofs.YtnmpchojhbmbmaaGreatDoor
