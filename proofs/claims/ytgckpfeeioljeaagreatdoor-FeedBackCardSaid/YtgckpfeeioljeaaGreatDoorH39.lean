/- What the rows' condition says of the package-level variables, in the walks' words. · Arguments as data: slices of texts, bytes, in the walks' words. -/
import Derived.Test.YtgckpfeeioljeaaGreatDoorRows
import Derived.Test.YtgckpfeeioljeaaGreatDoorG10
import Derived.Lib.LaidTab
import Derived.Stop.LaidErr
import Derived.LaidMore
import Derived.MakeChecks
import Derived.Test.YtgckpfeeioljeaaGreatDoorG18
import Derived.LaidHandle
import Derived.Test.YtgckpfeeioljeaaGreatDoorProg
import Derived.Test.YtgckpfeeioljeaaGreatDoorG11
import Derived.SliceStrings
import Derived.Carry
import Derived.ProofKit
namespace Go.Proofs.YtgckpfeeioljeaaGreatDoor
open Go.RowKit

theorem own : ownKnob Tryz.prog.godebug = none := by kernel_rfl
theorem gRounds : Tryz.prog.globalNamed "oubliette/sum.rounds" = some 2 := by kernel_rfl
theorem tRounds : (Tryz.prog.globals[2]?).map (·.type) = some 219 := by kernel_rfl
def roundsZ : List Int := roundsL.map fun n : Nat => (n : Int)
theorem rounds_data : (Rows.laid_oubliette_sum_rounds : DataW Unit) = Lib.tabData .u32 roundsZ := rfl
theorem rounds_at : (List.range 64).all (fun i => roundsZ.getD i 0 == val (K256 i)) = true := by decide +kernel
/-- The table stands first on the list. -/
theorem Rounds_of_laid {rest : List (String × DataW Unit)} {W : World} (h : laidMet Tryz.prog (("oubliette/sum.rounds", Rows.laid_oubliette_sum_rounds) :: rest) W) : Rounds W := by
  rw [rounds_data] at h
  have hT := Lib.tabIs_of_head gRounds tRounds Tryz.underlying219 Tryz.underlying166 (by kernel_rfl) (by kernel_rfl) h
  have hc : ∀ i, i < 64 → W.cell? ⟨2, i, none⟩ = some (.int .u32 (val (K256 i))) := fun i hi => by
    have h1 := hT.cell gRounds i (by simpa [roundsZ, roundsL] using hi)
    have h2 := List.all_eq_true.1 rounds_at i (List.mem_range.2 hi)
    rw [h1, eq_of_beq h2]
  exact ⟨block_lt_of_cell (hc 0 (by omega)), hc⟩

theorem rtypeT : (Tryz.prog.cutTypes.find? (·.1 == "internal/reflectlite.rtype")).map (·.2) = some 173 := by kernel_rfl
theorem gErr : Tryz.prog.globalNamed "errors.errorType" = some 1 := by kernel_rfl
theorem errRow : ((List.range 273).filter fun t => Tryz.prog.rowNamed t [101, 114, 114, 111, 114]) = [47] := by kernel_rfl
theorem typesSize : Tryz.prog.types.size = 273 := by kernel_rfl
/-- The handle of the type error. -/
theorem ErrT_of_met {W : World} (h : handlesMet Tryz.prog [("errors.errorType", Rows.laid_errors_errorType)] W) : ErrT W := by
  obtain ⟨name, u, ty, e1, e2, e3, e4, e5⟩ := h _ (List.mem_singleton.2 rfl)
  have en : name = [101, 114, 114, 111, 114] := (Option.some.inj e1).symm
  subst en
  obtain rfl := Option.some.inj (rtypeT.symm.trans e2)
  have hm : ty ∈ (List.range 273).filter fun t => Tryz.prog.rowNamed t [101, 114, 114, 111, 114] := List.mem_filter.2 ⟨List.mem_range.2 (by rw [← typesSize]; exact e3), e4⟩
  rw [errRow] at hm
  obtain rfl := List.mem_singleton.1 hm
  have hh : typeHandle Tryz.prog 47 = rt 47 := by kernel_rfl
  rw [hh] at e5
  have := World.var?_cell gErr e5 0
  simpa [ErrT] using this
theorem ErrT_of_laid {W : World} (h : laidMetH Tryz.prog [("errors.errorType", Rows.laid_errors_errorType)] W) : ErrT W := by
  have h' : laidMet Tryz.prog [] W ∧ handlesMet Tryz.prog [("errors.errorType", Rows.laid_errors_errorType)] W := h
  exact ErrT_of_met h'.2
theorem both_of_laidH {W : World} (h : laidMetH Tryz.prog [("oubliette/sum.rounds", Rows.laid_oubliette_sum_rounds), ("errors.errorType", Rows.laid_errors_errorType)] W) :
    laidMet Tryz.prog [("oubliette/sum.rounds", Rows.laid_oubliette_sum_rounds)] W ∧ handlesMet Tryz.prog [("errors.errorType", Rows.laid_errors_errorType)] W := h
theorem Rounds_of_laidH {W : World} (h : laidMetH Tryz.prog [("oubliette/sum.rounds", Rows.laid_oubliette_sum_rounds), ("errors.errorType", Rows.laid_errors_errorType)] W) : Rounds W := Rounds_of_laid (both_of_laidH h).1
theorem ErrT_of_laidH {W : World} (h : laidMetH Tryz.prog [("oubliette/sum.rounds", Rows.laid_oubliette_sum_rounds), ("errors.errorType", Rows.laid_errors_errorType)] W) : ErrT W := ErrT_of_met (both_of_laidH h).2
end Go.Proofs.YtgckpfeeioljeaaGreatDoor
namespace Go.Proofs.YtgckpfeeioljeaaGreatDoor
open Go.ChangeShapes Go.WideShapes Go.ChangeAt Go.RowKit

theorem laidOut : laidOutB Tryz.prog = true := by kernel_rfl
theorem byte_int {n : Int} (h : (Lit.int .u8 n).wf = true) : ∃ b : UInt8, n = (b.toNat : Int) := by
  have h2 : 0 ≤ n ∧ n ≤ 255 := by
    simp only [Lit.wf, Bool.and_eq_true, decide_eq_true_eq] at h
    exact ⟨h.1, h.2⟩
  refine ⟨UInt8.ofNat n.toNat, ?_⟩
  rw [UInt8.toNat_ofNat']; omega
/-- A slice of texts is a list of them. -/
theorem texts_of_Trod {H : Type} {enc : TypeId × Value → H} {W : World} {q : Option Addr} {l c : Nat} {d : DataW H} {p : List MemPlace} (h : DataW.Trod enc Tryz.prog W 0 (fun _ => true) true 70 (.slice q l c) d p) :
    ∃ ps : List ByteArray, l = ps.length ∧ textsAt W q ps := by
  obtain ⟨fuel, hf⟩ := h
  rcases open_strings Tryz.underlying70 Tryz.underlying9 (by kernel_rfl) hf with ⟨hcs, hx⟩ | ⟨a, len', cap', ss, hcs, _, hl, hm, hz, hx, hcell, hwz⟩
  · simp [Value.cells] at hcs
    obtain ⟨rfl, rfl, rfl⟩ := hcs
    exact ⟨[], rfl, fun j s hj => by simp at hj⟩
  · simp [Value.cells] at hcs
    obtain ⟨rfl, rfl, rfl⟩ := hcs
    simp only [if_true] at hz
    refine ⟨ss.take l, by rw [List.length_take]; omega, ?_⟩
    intro j s hj
    have hjl : j < l := by
      have := (List.getElem?_eq_some_iff.1 hj).1
      rw [List.length_take] at this; omega
    rw [List.getElem?_take_of_lt hjl] at hj
    obtain ⟨b, off, spot⟩ := a
    have hspot : spot = none := by simpa [Addr.add] using World.cell?_spot (hcell 0 (by omega))
    subst hspot
    have hc := hcell j (by omega)
    rw [add_flat', List.getD_eq_getElem?_getD, hj] at hc
    exact ⟨b, off, rfl, block_lt_of_cell hc, hc⟩
end Go.Proofs.YtgckpfeeioljeaaGreatDoor
