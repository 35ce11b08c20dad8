/- oubliettelaw.sameTexts, where they are the same (the walk). -/
import Derived.Test.YtnmpchojhbmbmaaGreatDoorProg
import Derived.Test.YtnmpchojhbmbmaaGreatDoorG26
namespace Go.Proofs.YtnmpchojhbmbmaaGreatDoor
open Go.RowKit Go.Shelf

/-- A slice of texts. -/
def txS (w : World) (v : Value) (l : List ByteArray) : Prop := ∃ p cap, v = .slice p l.length cap ∧ textsAt w p l
theorem txS.kept {w w' : World} {v : Value} {l : List ByteArray} (h : txS w v l) (hx : ∃ x, w' = ext w x) : txS w' v l := by
  obtain ⟨p, c, rfl, ht⟩ := h
  exact ⟨p, c, rfl, textsAt_of ht (ext_iff.1 hx).block (ext_iff.1 hx).size⟩
theorem txS_row {w : World} {base : Nat} {v : Value} {ss : List (List UInt8)} {k : Nat} (hk : k = ss.length) (h : w.ownsRow base 9 1 v k (ss.map Go.Proofs.encStr)) : txS w v (ss.map fun u => ⟨u.toArray⟩) := by
  subst hk
  obtain ⟨h1, ⟨rfl, h0⟩ | ⟨g, cap, cur, rfl, hb, hh, h2, h3, h4, h5⟩⟩ := h
  · obtain rfl : ss = [] := List.length_eq_zero_iff.1 h0
    exact ⟨none, 0, rfl, fun j s hj => by simp at hj⟩
  · refine ⟨some ⟨g, 0, none⟩, cap, by rw [List.length_map], fun j s hj => ⟨g, 0, rfl, lt_of_heap hh, ?_⟩⟩
    rw [Nat.mul_one] at h5
    rw [List.getElem?_map] at hj
    obtain ⟨u, hu, rfl⟩ := Option.map_eq_some_iff.1 hj
    have hj' : j < ss.length := (List.getElem?_eq_some_iff.1 hu).1
    have h6 : (cur.toList.take ss.length)[j]? = (ss.map Go.Proofs.encStr)[j]? := by rw [h5]
    rw [List.getElem?_take_of_lt hj', List.getElem?_map, hu] at h6
    rw [Nat.zero_add, cell_in, hh]
    have h7 : cur[j]? = some (Go.Proofs.encStr u) := by simpa using h6
    exact h7
set_option maxRecDepth 100000 in
set_option maxHeartbeats 4000000 in
theorem sameT_any (v1 v2 : Value) (l : List ByteArray) (w : World) (hl : l.length ≤ 1048576) (h1 : txS w v1 l) (h2 : txS w v2 l) :
    Calls Tryz.prog 15 #[v1, v2] w fun r w' => r = .returned (.bool true) ∧ ∃ x, w' = ext w x := by
  obtain ⟨q1, c1, rfl, t1⟩ := h1
  obtain ⟨q2, c2, rfl, t2⟩ := h2
  have A1 := Lib.hid t1
  have A2 := Lib.hid t2
  clear t1 t2
  go_enter Tryz.func15, Tryz.ntmps15
  go_wp2_with fail
  go_loopw [5] (fun iv wr => ∃ k : Nat, k ≤ l.length ∧ iv = .int .i64 k ∧ Hid (∃ x, wr = ext w x)) (fun iv _ => l.length - (intOf iv).toNat)
  case atStart => exact ⟨0, Nat.zero_le _, rfl, Lib.hid (ext_refl w)⟩
  case round =>
    obtain ⟨k, hk, rfl, XX⟩ := hrel
    by_cases hlt : k < l.length
    · have hx := List.getElem?_eq_getElem hlt
      have hb := ext_iff.1 XX.out
      obtain ⟨g1, o1, rfl, lt1, a0⟩ := textsAt_of A1.out hb.block hb.size k _ hx
      obtain ⟨g2, o2, rfl, lt2, b0⟩ := textsAt_of A2.out hb.block hb.size k _ hx
      generalize l[k] = x at a0 b0
      have hlt' : (k : Int) < l.length := by omega
      clear hx hb
      go_wp2_with fail
      refine wp_region_ext (by kernel_rfl) (by kernel_rfl) ?_
      repeat (go_big_quiet_step (fail))
      refine wpQuiet_nil ?_
      rintro _ ⟨x, rfl⟩
      have X2 := Lib.hid (ext_trans XX.out ⟨x, rfl⟩)
      generalize ext wr x = w2 at X2 ⊢
      clear a0 b0 lt1 lt2
      go_wp2_with fail
      go_roundw
      case rel => exact ⟨k + 1, hlt, by go_num, X2⟩
      case measure => simp [intOf]; omega
    · obtain rfl : k = l.length := by omega
      go_wp2_with fail
      go_ret
      exact ⟨rfl, XX.out⟩
end Go.Proofs.YtnmpchojhbmbmaaGreatDoor
