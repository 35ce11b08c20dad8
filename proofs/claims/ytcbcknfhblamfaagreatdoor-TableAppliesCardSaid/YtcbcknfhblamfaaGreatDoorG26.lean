/- oublietteref.Table: Apply of what is not right; Get (the walks). -/
import Derived.Test.YtcbcknfhblamfaaGreatDoorProg
import Derived.Test.YtcbcknfhblamfaaGreatDoorG24
import Derived.Test.YtcbcknfhblamfaaGreatDoorG23
import Derived.Test.YtcbcknfhblamfaaGreatDoorG17
namespace Go.Proofs.YtcbcknfhblamfaaGreatDoor
open Go.RowKit Go.Shelf

set_option maxRecDepth 100000 in
set_option maxHeartbeats 4000000 in
theorem rapply_no (e : Ev) (wt : Nat) (w : World) (hz : e.subject.size ≤ 1048576 ∧ e.table.size ≤ 1048576 ∧ e.row.size ≤ 1048576 ∧ e.value.size ≤ 1048576) (hR : rightE okR e = false) :
    Calls Tryz.prog 8 #[.pointer (some ⟨wt, 0, none⟩), .agg (evV e)] w fun r w' => r = .returned (.int .i64 1) ∧ ∃ x, w' = ext w x := by
  have RT := fun w => rright_any e w hz
  rw [hR] at RT
  have HX0 := Lib.hid (ext_alloc (.cells (evV e) 33) (ext_refl w))
  obtain ⟨ek, es, et, er, ev⟩ := e
  unfold evV at RT HX0 ⊢
  dsimp only at RT HX0 ⊢
  clear hR hz
  go_enter Tryz.func8, Tryz.ntmps8
  go_wp2_with fail
  refine (RT _).mono ?_
  rintro _ w2 ⟨rfl, hx⟩
  have X2 := Lib.hid (ext_trans HX0.out hx)
  clear hx
  go_wp2_with fail
  go_ret
  exact ⟨rfl, X2.out⟩
/-- What Get says. -/
def ansN (o : Option Cell) : Value := if o.isSome = true then .tuple #[.agg (cellA (o.getD zeroC)), .int .i64 0] else .tuple #[.agg (cellA zeroC), .int .i64 7]
theorem key_is (x : Cell) (t r : ByteArray) : decide (ck x = (txt t, txt r)) = (x.table.toList == t.toList && x.row.toList == r.toList) := by
  have te : ∀ y : ByteArray, y.toList = txt y := ByteArray.toList_eq
  unfold ck
  rw [te, te, te, te, Bool.eq_iff_iff]
  simp
theorem find_take {D : List Cell} {p : Cell → Bool} {k : Nat} {x : Cell} (hx : D[k]? = some x) (h : (D.take k).find? p = none) : (D.take (k + 1)).find? p = if p x = true then some x else none := by
  rw [List.take_add_one, hx, List.find?_append, h]
  cases hp : p x <;> simp [hp]
theorem find_all {D : List Cell} {p : Cell → Bool} {k : Nat} {x : Cell} (h : (D.take k).find? p = some x) : D.find? p = some x := by
  have e : D = D.take k ++ D.drop k := (List.take_append_drop k D).symm
  rw [e, List.find?_append, h]; rfl
theorem set_four {w : World} {b : Nat} {a0 a1 a2 a3 x0 x1 x2 x3 : Value} {y : TypeId} {f : Nat × Nat} (h : w.heap[b]? = some (.cells #[a0, a1, a2, a3] y f)) :
    ((((w.setCell ⟨b, 0, none⟩ x0).setCell ⟨b, 1, none⟩ x1).setCell ⟨b, 2, none⟩ x2).setCell ⟨b, 3, none⟩ x3).heap[b]? = some (.cells #[x0, x1, x2, x3] y f) := by
  rw [heap_setCell (heap_setCell (heap_setCell (heap_setCell h _) _) _)]
  rfl
theorem ext_set4 {w0 w : World} {b : Nat} {x0 x1 x2 x3 : Value} (hx : ∃ x, w = ext w0 x) (hb : w0.heap.size ≤ b) :
    ∃ x, ((((w.setCell ⟨b, 0, none⟩ x0).setCell ⟨b, 1, none⟩ x1).setCell ⟨b, 2, none⟩ x2).setCell ⟨b, 3, none⟩ x3) = ext w0 x := by
  have one : ∀ (w : World) (i : Nat) (v : Value), (∃ x, w = ext w0 x) → ∃ x, w.setCell ⟨b, i, none⟩ v = ext w0 x := fun w i v h => by
    have B := ext_iff.1 h
    have g := grown_setCell w b i v
    exact ext_of ⟨g.os.trans B.os, g.tape.trans B.tape, g.output.trans B.output, Nat.le_trans B.size g.size, fun k hk => (g.block k (Nat.lt_of_lt_of_le hk B.size) (fun e => by injection e; omega)).trans (B.block k hk)⟩
  exact one _ 3 x3 (one _ 2 x2 (one _ 1 x1 (one _ 0 x0 hx)))
set_option maxRecDepth 100000 in
set_option maxHeartbeats 4000000 in
theorem rget_any (t r : ByteArray) (wt : Nat) (q : Option Addr) (c : Nat) (D : List Cell) (w : World) (hD : w.heap[wt]? = some (.cells #[.slice q D.length c] 27 (0, 0))) (hr : cellsIn w q D) (hn : D.length ≤ 1048576) :
    Calls Tryz.prog 11 #[.pointer (some ⟨wt, 0, none⟩), .string t, .string r] w fun e w' => e = .returned (ansN (D.find? fun c => decide (ck c = (txt t, txt r)))) ∧ ∃ x, w' = ext w x := by
  have HR := Lib.hid hr
  have cw : w.cell? ⟨wt, 0, none⟩ = some (.slice q D.length c) := by rw [cell_in, hD]; rfl
  have hw := lt_of_heap hD
  have Z0 := Lib.hid (heap_alloc_at w (.cells #[.string ⟨#[]⟩, .string ⟨#[]⟩, .string ⟨#[]⟩, .string ⟨#[]⟩] 44))
  have X0 := Lib.hid (ext_alloc (.cells #[.string ⟨#[]⟩, .string ⟨#[]⟩, .string ⟨#[]⟩, .string ⟨#[]⟩] 44) (ext_refl w))
  clear hr hD
  go_enter Tryz.func11, Tryz.ntmps11
  go_wp2_with fail
  generalize w.alloc (.cells #[.string ⟨#[]⟩, .string ⟨#[]⟩, .string ⟨#[]⟩, .string ⟨#[]⟩] 44) = w1 at Z0 X0 ⊢
  generalize hrb : w.heap.size = rb at Z0 ⊢
  have RB := Lib.hid hrb
  clear hrb cw hw
  go_loopw [15] (fun iv wr => ∃ k : Nat, k ≤ D.length ∧ iv = .int .i64 k ∧ Hid (∃ x, wr = ext w1 x) ∧ Hid ((D.take k).find? (fun c => decide (ck c = (txt t, txt r))) = none)) (fun iv _ => D.length - (intOf iv).toNat)
  case atStart => exact ⟨0, Nat.zero_le _, rfl, Lib.hid (ext_refl w1), Lib.hid rfl⟩
  case round =>
    obtain ⟨k, hk, rfl, XX, HF⟩ := hrel
    have hbw := ext_iff.1 (ext_trans X0.out XX.out)
    have ZR : wr.heap[rb]? = some (.cells #[.string ⟨#[]⟩, .string ⟨#[]⟩, .string ⟨#[]⟩, .string ⟨#[]⟩] 44 (0, 0)) := ((ext_iff.1 XX.out).block rb (lt_of_heap Z0.out)).trans Z0.out
    by_cases hlt : k < D.length
    · have hlt' : (k : Int) < D.length := by omega
      have hx := List.getElem?_eq_getElem hlt
      obtain ⟨gd, rfl, a0, a1, a2, a3, hgd⟩ := cellsIn_four (rows_at HR.out hbw) hx
      have FT := Lib.hid (find_take (p := fun c => decide (ck c = (txt t, txt r))) hx HF.out)
      generalize D[k] = x at FT a0 a1 a2 a3
      rw [key_is x t r] at FT
      obtain ⟨xt, xr, xs, xv⟩ := x
      dsimp only at FT a0 a1 a2 a3
      have z0 : wr.cell? ⟨rb, 0, none⟩ = some (.string ⟨#[]⟩) := by rw [cell_in, ZR]; rfl
      have z1 : wr.cell? ⟨rb, 1, none⟩ = some (.string ⟨#[]⟩) := by rw [cell_in, ZR]; rfl
      have z2 : wr.cell? ⟨rb, 2, none⟩ = some (.string ⟨#[]⟩) := by rw [cell_in, ZR]; rfl
      have z3 : wr.cell? ⟨rb, 3, none⟩ = some (.string ⟨#[]⟩) := by rw [cell_in, ZR]; rfl
      have f0 := free_of_heap ZR 0
      have f1 := free_of_heap ZR 1
      have f2 := free_of_heap ZR 2
      have f3 := free_of_heap ZR 3
      have zl := lt_of_heap ZR
      have HZ := Lib.hid ZR
      clear hx hbw ZR
      cases ht : (xt.toList == t.toList) with
      | true =>
        cases hr' : (xr.toList == r.toList) with
        | true =>
          rw [ht, hr'] at FT
          go_wp2_with fail
          have hz := set_four (x0 := .string xt) (x1 := .string xr) (x2 := .string xs) (x3 := .string xv) HZ.out
          have hf := find_all FT.out
          exact ret_cells rfl rfl ((heap_alloc_old _ _ (lt_of_heap hz)).trans hz) Tryz.underlying44 rfl (by kernel_rfl) rfl rfl ⟨by rw [hf]; rfl, ext_alloc _ (ext_set4 (ext_trans X0.out XX.out) (Nat.le_of_eq RB.out))⟩
        | false =>
          rw [ht, hr'] at FT
          go_wp2_with fail
          go_roundw
          case rel => exact ⟨k + 1, hlt, by go_num, Lib.hid (ext_alloc _ XX.out), Lib.hid FT.out⟩
          case measure => simp [intOf]; omega
      | false =>
        rw [ht] at FT
        go_wp2_with fail
        go_roundw
        case rel => exact ⟨k + 1, hlt, by go_num, Lib.hid (ext_alloc _ XX.out), Lib.hid FT.out⟩
        case measure => simp [intOf]; omega
    · obtain rfl : k = D.length := by omega
      have z0 : wr.cell? ⟨rb, 0, none⟩ = some (.string ⟨#[]⟩) := by rw [cell_in, ZR]; rfl
      have z1 : wr.cell? ⟨rb, 1, none⟩ = some (.string ⟨#[]⟩) := by rw [cell_in, ZR]; rfl
      have z2 : wr.cell? ⟨rb, 2, none⟩ = some (.string ⟨#[]⟩) := by rw [cell_in, ZR]; rfl
      have z3 : wr.cell? ⟨rb, 3, none⟩ = some (.string ⟨#[]⟩) := by rw [cell_in, ZR]; rfl
      have f0 := free_of_heap ZR 0
      have f1 := free_of_heap ZR 1
      have f2 := free_of_heap ZR 2
      have f3 := free_of_heap ZR 3
      have zl := lt_of_heap ZR
      have HZ := Lib.hid ZR
      clear ZR hbw
      go_wp2_with fail
      have hz := set_four (x0 := .string ⟨#[]⟩) (x1 := .string ⟨#[]⟩) (x2 := .string ⟨#[]⟩) (x3 := .string ⟨#[]⟩) HZ.out
      rw [List.take_length] at HF
      have hf := HF.out
      exact ret_cells rfl rfl hz Tryz.underlying44 rfl (by kernel_rfl) rfl rfl ⟨by rw [hf]; rfl, ext_set4 (ext_trans X0.out XX.out) (Nat.le_of_eq RB.out)⟩
end Go.Proofs.YtcbcknfhblamfaaGreatDoor
