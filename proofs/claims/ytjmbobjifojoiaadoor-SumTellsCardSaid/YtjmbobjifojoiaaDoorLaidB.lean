/- What the rows' condition says of math/bits.deBruijn64tab, in the walks' words. -/
import Derived.Test.YtjmbobjifojoiaaDoorLaid
import Derived.Test.YtjmbobjifojoiaaDoorRefHex
namespace Go.Proofs.YtjmbobjifojoiaaDoor
open Go.RowKit

theorem gBruijn : Tryd.prog.globalNamed "math/bits.deBruijn64tab" = some 6 := by kernel_rfl
theorem tBruijn : (Tryd.prog.globals[6]?).map (·.type) = some 232 := by kernel_rfl
def bruijnZ : List Int := [0, 1, 56, 2, 57, 49, 28, 3, 61, 58, 42, 50, 38, 29, 17, 4, 62, 47, 59, 36, 45, 43, 51, 22, 53, 39, 33, 30, 24, 18, 12, 5, 63, 55, 48, 27, 60, 41, 37, 16, 46, 35, 44, 21, 52, 32, 23, 11, 54, 26, 40, 15, 34, 20, 31, 10, 25, 14, 19, 9, 13, 8, 7, 6]
theorem bruijn_data : (Rows.laid_math_bits_deBruijn64tab : DataW Unit) = Lib.tabData .u8 bruijnZ := rfl
theorem Bruijn_of_laid {rest : List (String × DataW Unit)} {W : World} (h : laidMet Tryd.prog (("math/bits.deBruijn64tab", Rows.laid_math_bits_deBruijn64tab) :: rest) W) : Bruijn W := by
  rw [bruijn_data] at h
  have hT := Lib.tabIs_of_head gBruijn tBruijn Tryd.underlying232 Tryd.underlying5 (by kernel_rfl) (by kernel_rfl) h
  have hc : W.cell? ⟨6, 15, none⟩ = some (.int .u8 4) := by
    have h1 := hT.cell gBruijn 15 (by simp [bruijnZ])
    rw [h1]; rfl
  exact ⟨block_lt_of_cell hc, hc⟩
end Go.Proofs.YtjmbobjifojoiaaDoor
