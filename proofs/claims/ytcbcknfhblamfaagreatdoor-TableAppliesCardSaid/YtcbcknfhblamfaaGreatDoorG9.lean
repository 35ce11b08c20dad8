/- oublietteref.ahead, and the closure that sort.Slice is handed by oublietteref.Table.Apply (the walks). -/
import Derived.Test.YtcbcknfhblamfaaGreatDoorProg
import Derived.Test.YtcbcknfhblamfaaGreatDoorG1
import Derived.Test.YtcbcknfhblamfaaGreatDoorInv
namespace Go.Proofs.YtcbcknfhblamfaaGreatDoor
open Go.RowKit Go.Shelf Go.Sort

set_option maxRecDepth 100000 in
set_option maxHeartbeats 4000000 in
theorem ahead_any (c d : Cell) (w : World) : Calls Tryz.prog 18 #[.agg (cellVs c).toArray, .agg (cellVs d).toArray] w fun e w' => e = .returned (.bool (ltC c d)) ∧ ∃ x, w' = ext w x := by
  obtain ⟨t1, r1, s1, v1⟩ := c
  obtain ⟨t2, r2, s2, v2⟩ := d
  have HE : Hid (ltC ⟨t1, r1, s1, v1⟩ ⟨t2, r2, s2, v2⟩ = (Op.bytesLess t1.toList t2.toList || (t1.toList == t2.toList && Op.bytesLess r1.toList r2.toList))) := Lib.hid (by
    have e : ∀ x : ByteArray, x.toList = txt x := ByteArray.toList_eq
    unfold ltC kless ck
    rw [e, e, e, e]
    show (_ || (decide (txt t1 = txt t2) && _)) = _
    rw [show decide (txt t1 = txt t2) = (txt t1 == txt t2) from (by rw [Bool.eq_iff_iff]; simp)])
  have HX := Lib.hid (ext_alloc (.cells (cellVs ⟨t2, r2, s2, v2⟩).toArray 44) (ext_alloc (.cells (cellVs ⟨t1, r1, s1, v1⟩).toArray 44) (ext_refl w)))
  unfold cellVs at HX ⊢
  cases hb : Op.bytesLess t1.toList t2.toList with
  | true =>
    rw [hb] at HE
    go_enter Tryz.func18, Tryz.ntmps18
    go_wp2_with fail
    go_ret
    exact ⟨by rw [HE.out]; rfl, HX.out⟩
  | false =>
    rw [hb] at HE
    cases he : (t1.toList == t2.toList) with
    | false =>
      rw [he] at HE
      go_enter Tryz.func18, Tryz.ntmps18
      go_wp2_with fail
      go_ret
      exact ⟨by rw [HE.out]; rfl, HX.out⟩
    | true =>
      rw [he] at HE
      go_enter Tryz.func18, Tryz.ntmps18
      go_wp2_with fail
      go_ret
      exact ⟨by rw [HE.out]; rfl, HX.out⟩
/-- The closure: its own slice lies in a box. -/
theorem cell_of {w : World} {gb : Nat} {d : Array Cell} (h : HoldsK cellVs 4 w gb 0 d) {i : Nat} (hi : i < d.size) :
    w.cell? ⟨gb, i * 4, none⟩ = some (.string d[i]!.table) ∧ w.cell? ⟨gb, i * 4 + 1, none⟩ = some (.string d[i]!.row) ∧ w.cell? ⟨gb, i * 4 + 2, none⟩ = some (.string d[i]!.subject) ∧ w.cell? ⟨gb, i * 4 + 3, none⟩ = some (.string d[i]!.value) := by
  have e : ∀ c, c < 4 → w.cell? ⟨gb, i * 4 + c, none⟩ = some (cellVs d[i]!)[c]! := fun c hc => by
    have := (h.cell (i := i) (c := c) hi hc).1
    rwa [Nat.zero_add] at this
  exact ⟨e 0 (by omega), e 1 (by omega), e 2 (by omega), e 3 (by omega)⟩
set_option maxRecDepth 100000 in
set_option maxHeartbeats 4000000 in
theorem clo_any (i j : Nat) (gb jb N c : Nat) (d : Array Cell) (w : World) (hd : d.size = N) (h : HoldsK cellVs 4 w gb 0 d) (hi : i < N) (hj : j < N) (hg : gb < w.heap.size) (hb : w.heap[jb]? = some (.cells #[.slice (some ⟨gb, 0, none⟩) N c] 25 (0, 0))) :
    Calls Tryz.prog 17 #[.int .i64 i, .int .i64 j, .pointer (some ⟨jb, 0, none⟩)] w fun e w' => e = .returned (.bool (ltC d[i]! d[j]!)) ∧ ∃ x, w' = ext w x := by
  obtain ⟨a0, a1, a2, a3⟩ := cell_of h (i := i) (by omega)
  obtain ⟨b0, b1, b2, b3⟩ := cell_of h (i := j) (by omega)
  generalize d[i]! = x at a0 a1 a2 a3 ⊢
  generalize d[j]! = y at b0 b1 b2 b3 ⊢
  have AH := fun w => ahead_any x y w
  obtain ⟨t1, r1, s1, v1⟩ := x
  obtain ⟨t2, r2, s2, v2⟩ := y
  dsimp only at a0 a1 a2 a3 b0 b1 b2 b3
  unfold cellVs at AH
  have j0 : w.cell? ⟨jb, 0, none⟩ = some (.slice (some ⟨gb, 0, none⟩) N c) := by rw [cell_in, hb]; rfl
  have jl := lt_of_heap hb
  clear hb h hd
  have hi' : (i : Int) < N := by omega
  have hj' : (j : Int) < N := by omega
  go_enter Tryz.func17, Tryz.ntmps17
  go_wp2_with fail
  refine wp_region_ext (by kernel_rfl) (by kernel_rfl) ?_
  repeat (go_big_quiet_step ((go_at_call 18; refine (AH _).mono ?_; rintro _ _ ⟨rfl, hx⟩; exact ⟨rfl, ext_trans ⟨_, rfl⟩ hx⟩)))
  refine wpQuiet_nil ?_
  rintro _ ⟨x, rfl⟩
  go_wp2_with fail
  go_ret
  exact ⟨rfl, ⟨_, rfl⟩⟩
end Go.Proofs.YtcbcknfhblamfaaGreatDoor
