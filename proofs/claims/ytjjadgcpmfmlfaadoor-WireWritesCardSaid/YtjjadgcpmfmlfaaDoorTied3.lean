/- Arguments as data: records. -/
import Derived.Test.YtjjadgcpmfmlfaaDoorProg
import Derived.Test.YtjjadgcpmfmlfaaDoorTied2
import Derived.Test.YtjjadgcpmfmlfaaDoorWire
import Derived.ProofKit
namespace Go.Proofs.YtjjadgcpmfmlfaaDoor
open Go.ChangeShapes Go.WideShapes Go.ChangeAt Go.RowKit

section
variable {H : Type} {enc : TypeId × Value → H}
set_option maxRecDepth 100000 in
/-- A record's value. -/
theorem open_rec {W : World} {base : Nat} {v : Value} {d : DataW H} {p : List MemPlace} (hv : Value.okWide Tryd.prog W .any base 45 v) (h : DataW.Trod enc Tryd.prog W 0 (fun _ => true) true 45 v d p) : ∃ e : Rec, v = .agg (recV e) := by
  have hs := Tryd.underlying45
  have hC : Tryd.prog.cellsOf 45 = 5 := by kernel_rfl
  obtain ⟨cs, rfl, hsz⟩ := okWide_struct hs hv
  obtain ⟨c0, c1, c2, c3, c4, rfl⟩ := array5 (hsz.trans hC)
  obtain ⟨fuel, hf⟩ := h
  obtain ⟨xs, n, _, _, _, hlen, hf⟩ := DataW.trod_struct hs hf
  match xs, hlen with
  | [y0, y1, y2, y3, y4], _ =>
    have h0 := hf 0 _ rfl
    have h1 := hf 1 _ rfl
    have h2 := hf 2 _ rfl
    have h3 := hf 3 _ rfl
    have h4 := hf 4 _ rfl
    simp only [Value.cells, List.getElem?_cons_zero, List.getElem?_cons_succ] at h0 h1 h2 h3 h4
    obtain ⟨a0, e0, _⟩ := DataW.trod_int Tryd.underlying3 h0
    obtain ⟨a1, e1, _⟩ := DataW.trod_string Tryd.underlying9 h1
    obtain ⟨a2, e2, _⟩ := DataW.trod_int Tryd.underlying3 h2
    obtain ⟨a3, e3, _⟩ := DataW.trod_string Tryd.underlying9 h3
    obtain ⟨a4, e4, _⟩ := DataW.trod_string Tryd.underlying9 h4
    injection e0 with e0; injection e1 with e1; injection e2 with e2; injection e3 with e3; injection e4 with e4
    subst e0 e1 e2 e3 e4
    exact ⟨⟨a0, a1, a2, a3, a4⟩, rfl⟩
end
end Go.Proofs.YtjjadgcpmfmlfaaDoor
