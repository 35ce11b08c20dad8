/- oubliettelaw.sameCells, where they are the same (the walk). -/
import Derived.Test.YtcbcknfhblamfaaGreatDoorProg
import Derived.Test.YtcbcknfhblamfaaGreatDoorG20
namespace Go.Proofs.YtcbcknfhblamfaaGreatDoor
open Go.RowKit Go.Shelf

theorem cellsIn_four {w : World} {q : Option Addr} {l : List Cell} (h : cellsIn w q l) {j : Nat} {c : Cell} (hj : l[j]? = some c) :
    ∃ g, q = some ⟨g, 0, none⟩ ∧ w.cell? ⟨g, j * 4, none⟩ = some (.string c.table) ∧ w.cell? ⟨g, j * 4 + 1, none⟩ = some (.string c.row) ∧ w.cell? ⟨g, j * 4 + 2, none⟩ = some (.string c.subject) ∧ w.cell? ⟨g, j * 4 + 3, none⟩ = some (.string c.value) ∧ g < w.heap.size := by
  rcases h with rfl | ⟨g, hq, hg, hc⟩
  · simp at hj
  · have hl := (List.getElem?_eq_some_iff.1 hj).1
    have he : l[j]! = c := by rw [getElem!_pos l j hl]; exact (List.getElem?_eq_some_iff.1 hj).2
    have h := hc j hl
    rw [he, Nat.zero_add] at h
    exact ⟨g, hq, h 0 _ rfl, h 1 _ rfl, h 2 _ rfl, h 3 _ rfl, hg⟩
set_option maxRecDepth 100000 in
set_option maxHeartbeats 4000000 in
theorem sameC_any (q1 q2 : Option Addr) (c1 c2 : Nat) (l : List Cell) (w : World) (hl : l.length ≤ 1048576) (h1 : cellsIn w q1 l) (h2 : cellsIn w q2 l) :
    Calls Tryz.prog 9 #[.slice q1 l.length c1, .slice q2 l.length c2] w (Res true w) := by
  have A1 := Lib.hid h1
  have A2 := Lib.hid h2
  clear h1 h2
  go_enter Tryz.func9, Tryz.ntmps9
  go_wp2_with fail
  go_loopw [5] (fun iv wr => ∃ k : Nat, k ≤ l.length ∧ iv = .int .i64 k ∧ Hid (∃ x, wr = ext w x)) (fun iv _ => l.length - (intOf iv).toNat)
  case atStart => exact ⟨0, Nat.zero_le _, rfl, Lib.hid (ext_refl w)⟩
  case round =>
    obtain ⟨k, hk, rfl, XX⟩ := hrel
    by_cases hlt : k < l.length
    · have hx := List.getElem?_eq_getElem hlt
      have hb := ext_iff.1 XX.out
      obtain ⟨g1, rfl, a0, a1, a2, a3, lt1⟩ := cellsIn_four (rows_at A1.out hb) hx
      obtain ⟨g2, rfl, b0, b1, b2, b3, lt2⟩ := cellsIn_four (rows_at A2.out hb) hx
      generalize l[k] = x at a0 a1 a2 a3 b0 b1 b2 b3
      obtain ⟨t, r, s, v⟩ := x
      dsimp only at a0 a1 a2 a3 b0 b1 b2 b3
      have hlt' : (k : Int) < l.length := by omega
      clear hx hb
      go_wp2_with fail
      refine wp_region_ext (by kernel_rfl) (by kernel_rfl) ?_
      repeat (go_big_quiet_step (fail))
      refine wpQuiet_nil ?_
      rintro _ ⟨x, rfl⟩
      have X2 := Lib.hid (ext_trans XX.out ⟨x, rfl⟩)
      generalize ext wr x = w2 at X2 ⊢
      clear a0 a1 a2 a3 b0 b1 b2 b3 lt1 lt2
      go_wp2_with fail
      go_roundw
      case rel => exact ⟨k + 1, hlt, by go_num, X2⟩
      case measure => simp [intOf]; omega
    · obtain rfl : k = l.length := by omega
      go_wp2_with fail
      go_ret
      exact ⟨rfl, XX.out⟩
end Go.Proofs.YtcbcknfhblamfaaGreatDoor
