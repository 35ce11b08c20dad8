/- slices.Equal at rows. -/
import Derived.Test.YtjjadgcpmfmlfaaDoorProg
import Derived.Test.YtjjadgcpmfmlfaaDoorHas
import Derived.Test.YtjjadgcpmfmlfaaDoorShelfT
import Derived.Shelf.SlicesQ.Equal
namespace Go.Proofs.YtjjadgcpmfmlfaaDoor
open Go.RowKit Go.Shelf Go.Lib

theorem neC : NeqAt Tryd.prog 81 (fun x => .agg (cellVs x).toArray) cellEq := by
  refine ⟨fun x y w => ?_, GuardAt.agg _ (by kernel_rfl)⟩
  have u9 := Tryd.underlying9
  have a9 := Tryd.isAgg9
  have z9 := Tryd.sizeOf9
  have hS : Tryd.prog.underlying 81 = some (.struct (Tryd.prog.fieldsOf 81)) := by kernel_rfl
  have hp : Tryd.prog.stoodInHeld 81 = false := by kernel_rfl
  simp only [cellVs]
  rw [run_neq_struct, show (10000 : Nat) = 9999 + 1 from rfl, run_equalIn_agg w 9999 81 _ _ hS hp]
  simp only [Program.fieldsOf, Tryd.underlying81]
  unfold cellEq
  go_simp
  by_cases h1 : x.table.toList = y.table.toList <;> by_cases h2 : x.row.toList = y.row.toList <;> by_cases h3 : x.subject.toList = y.subject.toList <;> by_cases h4 : x.value.toList = y.value.toList <;> simp [h1, h2, h3, h4]
set_option maxRecDepth 100000 in
theorem eqC_none (q r : Option Addr) (c d : Nat) (w : World) : Calls Tryd.prog 66 #[.slice q 0 c, .slice r 0 d] w fun e w' => e = .returned (.bool true) ∧ w' = w := by
  go_enter Tryd.func66, Tryd.ntmps66
  go_wp2
  refine wp_loop_rounds 1 ?_
  rw [rounds_succ]
  go_wp2_with fail
  go_ret
  exact ⟨rfl, rfl⟩
set_option maxRecDepth 100000 in
theorem eqC_less (q r : Option Addr) (n m c d : Nat) (w : World) (hn : n ≠ m) : Calls Tryd.prog 66 #[.slice q n c, .slice r m d] w fun e w' => e = .returned (.bool false) ∧ w' = w := by
  have hnm' : ¬ ((n : Int) = m) := by omega
  go_enter Tryd.func66, Tryd.ntmps66
  go_wp2_with fail
  go_ret
  exact ⟨rfl, rfl⟩
theorem allEq_cells (l m : List Cell) : Lib.allEq cellEq l m = true ↔ l = m := by
  constructor
  · intro h
    by_cases hl : l.length = m.length
    · refine List.ext_getElem hl fun i h1 h2 => ?_
      by_cases he : cellEq l[i] m[i] = true
      · exact cellEq_iff.1 he
      · exfalso
        rw [Lib.allEq_elem cellEq l m i h1 h2 (by simp only [getElem!_pos, h1, h2]; simpa using he)] at h
        cases h
    · rw [Lib.allEq_len cellEq _ _ hl] at h; cases h
  · rintro rfl
    exact Lib.allEq_all cellEq l l rfl (fun j _ => cellEq_iff.2 rfl)
/-- Equal at rows. -/
theorem eqC_any (q r : Option Addr) (c d : Nat) (l m : List Cell) (w : World) (hl : l.length ≤ 9223372036854775807) (hm : m.length ≤ 9223372036854775807) (h1 : cellsIn w q l) (h2 : cellsIn w r m) :
    Calls Tryd.prog 66 #[.slice q l.length c, .slice r m.length d] w (Res (Lib.allEq cellEq l m) w) := by
  by_cases hlm : l.length = m.length
  · by_cases h0 : l.length = 0
    · have e1 := List.length_eq_zero_iff.1 h0
      have e2 := List.length_eq_zero_iff.1 (hlm.symm.trans h0)
      subst e1 e2
      exact (eqC_none q r c d w).mono fun e w' ⟨h1, h2⟩ => ⟨by rw [h1]; rfl, by rw [h2]; exact ext_refl w⟩
    · rcases h1 with rfl | ⟨b1, rfl, hb1, hc1⟩
      · exact absurd rfl h0
      · rcases h2 with rfl | ⟨b2, rfl, hb2, hc2⟩
        · exact absurd hlm h0
        · have h := AnyQ.slices_Equal Tryd.eqCells 4 isAggC sizeOfC cellVs (fun _ => rfl) cellEq neC b1 0 l.length c b2 0 m.length d l m w (Nat.le_refl _) (Nat.le_refl _) hl hm hc1 hc2
          rw [List.take_length, List.take_length] at h
          exact h.mono fun e w' ⟨h1, q, h2⟩ => ⟨h1, by rw [h2]; exact ext_drewN q (ext_refl w)⟩
  · exact (eqC_less q r _ _ c d w hlm).mono fun e w' ⟨h1, h2⟩ => ⟨by rw [h1, Lib.allEq_len cellEq _ _ hlm], by rw [h2]; exact ext_refl w⟩
end Go.Proofs.YtjjadgcpmfmlfaaDoor
