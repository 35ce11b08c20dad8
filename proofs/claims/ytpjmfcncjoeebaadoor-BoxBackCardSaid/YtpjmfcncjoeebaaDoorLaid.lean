/- What the rows' condition says of the package-level variables, in the walks' words. -/
import Derived.Test.YtpjmfcncjoeebaaDoorRows
import Derived.Test.YtpjmfcncjoeebaaDoorSha
import Derived.Lib.LaidTab
import Derived.Stop.LaidErr
import Derived.LaidMore
import Derived.MakeChecks
namespace Go.Proofs.YtpjmfcncjoeebaaDoor
open Go.RowKit

theorem own : ownKnob Tryd.prog.godebug = none := by kernel_rfl
theorem gRounds : Tryd.prog.globalNamed "oubliette/sum.rounds" = some 1 := by kernel_rfl
theorem tRounds : (Tryd.prog.globals[1]?).map (·.type) = some 106 := by kernel_rfl
def roundsZ : List Int := roundsL.map fun n : Nat => (n : Int)
theorem rounds_data : (Rows.laid_oubliette_sum_rounds : DataW Unit) = Lib.tabData .u32 roundsZ := rfl
theorem rounds_at : (List.range 64).all (fun i => roundsZ.getD i 0 == val (K256 i)) = true := by decide +kernel
/-- The table stands first on the list. -/
theorem Rounds_of_laid {rest : List (String × DataW Unit)} {W : World} (h : laidMet Tryd.prog (("oubliette/sum.rounds", Rows.laid_oubliette_sum_rounds) :: rest) W) : Rounds W := by
  rw [rounds_data] at h
  have hT := Lib.tabIs_of_head gRounds tRounds Tryd.underlying106 Tryd.underlying94 (by kernel_rfl) (by kernel_rfl) h
  have hc : ∀ i, i < 64 → W.cell? ⟨1, i, none⟩ = some (.int .u32 (val (K256 i))) := fun i hi => by
    have h1 := hT.cell gRounds i (by simpa [roundsZ, roundsL] using hi)
    have h2 := List.all_eq_true.1 rounds_at i (List.mem_range.2 hi)
    rw [h1, eq_of_beq h2]
  exact ⟨block_lt_of_cell (hc 0 (by omega)), hc⟩
end Go.Proofs.YtpjmfcncjoeebaaDoor
