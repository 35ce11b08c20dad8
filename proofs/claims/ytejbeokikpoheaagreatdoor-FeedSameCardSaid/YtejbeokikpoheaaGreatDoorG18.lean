/- What is sealed is opened: plain. · event.Print (the walk). -/
import Derived.Test.YtejbeokikpoheaaGreatDoorProg
import Derived.Test.YtejbeokikpoheaaGreatDoorG17
import Derived.Test.YtejbeokikpoheaaGreatDoorG4
import Derived.Test.YtejbeokikpoheaaGreatDoorG16
namespace Go.Proofs.YtejbeokikpoheaaGreatDoor
open Go.RowKit

theorem xorB_twice (k n s : List UInt8) : xorB k n (xorB k n s) = s := by
  apply List.ext_getElem?
  intro i
  simp only [xorB, List.getElem?_mapIdx]
  cases s[i]? with
  | none => rfl
  | some c => simp [UInt8.xor_assoc]
theorem sealB_front (key nonce wth text : ByteArray) : (sealB key nonce wth text).take 16 = tagB key nonce wth ⟨(xorB key.data.toList nonce.data.toList text.data.toList).toArray⟩ := by
  unfold sealB
  rw [List.take_left' (tagB_length ..)]
theorem sealB_rest (key nonce wth text : ByteArray) : (sealB key nonce wth text).drop 16 = xorB key.data.toList nonce.data.toList text.data.toList := by
  unfold sealB
  rw [List.drop_left' (tagB_length ..)]
/-- What is sealed is opened. -/
theorem opens_seal (key nonce wth text : ByteArray) (h : text.size ≤ 400) : opens key nonce wth ⟨(sealB key nonce wth text).toArray⟩ := by
  have hl : (⟨(sealB key nonce wth text).toArray⟩ : ByteArray).size = 16 + text.size := by
    show (sealB key nonce wth text).toArray.size = _
    rw [List.size_toArray, sealB_length]
  refine ⟨by omega, by omega, ?_⟩
  have e : (⟨(sealB key nonce wth text).toArray⟩ : ByteArray).extract 16 (⟨(sealB key nonce wth text).toArray⟩ : ByteArray).size = ⟨(xorB key.data.toList nonce.data.toList text.data.toList).toArray⟩ := by
    apply ByteArray.ext
    apply Array.toList_inj.1
    rw [rest_toList]
    exact sealB_rest ..
  rw [e]
  exact (sealB_front ..).symm
theorem openB_seal (key nonce wth text : ByteArray) : openB key nonce ⟨(sealB key nonce wth text).toArray⟩ = text.data.toList := by
  unfold openB
  show xorB _ _ ((sealB key nonce wth text).drop 16) = _
  rw [sealB_rest, xorB_twice]

end Go.Proofs.YtejbeokikpoheaaGreatDoor
namespace Go.Proofs.YtejbeokikpoheaaGreatDoor
open Go.RowKit

def wordT (j : Nat) : ByteArray := mkT (wordL j)
/-- The package's words. -/
def WordsV (w : World) : Prop := 0 < w.heap.size ∧ ∀ j, j < 4 → w.cell? ⟨0, j, none⟩ = some (.string (wordT j))
theorem WordsV_of {w w' : World} (h : WordsV w) (hh : ∀ k, k < w.heap.size → w'.heap[k]? = w.heap[k]?) (hs : w.heap.size ≤ w'.heap.size) : WordsV w' :=
  ⟨Nat.lt_of_lt_of_le h.1 hs, fun j hj => by have := h.2 j hj; rw [cell_in] at this ⊢; rw [hh _ h.1]; exact this⟩
theorem WordsV_ext {w w' : World} (h : WordsV w) (hx : ∃ x, w' = ext w x) : WordsV w' := WordsV_of h (fun _ hk => (ext_iff.1 hx).block _ hk) (ext_iff.1 hx).size

def PrintPost (e : Ev) (w : World) (r : Ending) (w' : World) : Prop := r = .returned (.tuple #[.string ⟨(printL e).toArray⟩, .nilIface]) ∧ ∃ x, w' = ext w x

set_option maxRecDepth 100000 in
set_option maxHeartbeats 1000000 in
theorem print_bad (e : Ev) (w : World) (hz : e.subject.size ≤ 1048576 ∧ e.table.size ≤ 1048576 ∧ e.row.size ≤ 1048576) (hR : rightE okV e = false) :
    Calls Tryz.prog 10 #[.agg (evV e)] w fun r w' => r = .returned (.tuple #[.string ⟨#[]⟩, errV 1]) ∧ ∃ x, w' = ext w x := by
  have C := fun w => right_any e w hz
  rw [hR] at C
  unfold evV at C ⊢
  go_enter Tryz.func10, Tryz.ntmps10
  go_wp2_with fail
  refine (C _).mono ?_
  rintro _ w1 ⟨rfl, hx⟩
  have X1 := Lib.hid (ext_trans (ext_alloc _ (ext_refl w)) hx)
  clear hx C
  go_wp2_with fail
  go_ret2
  exact ⟨rfl, X1.out⟩

set_option maxRecDepth 100000 in
set_option maxHeartbeats 1000000 in
theorem print_put (s t r v : ByteArray) (w : World) (hz : s.size ≤ 1048576 ∧ t.size ≤ 1048576 ∧ r.size ≤ 1048576) (hv : v.size ≤ 1048576) (hR : rightE okV ⟨1, s, t, r, v⟩ = true) (hW : WordsV w) :
    Calls Tryz.prog 10 #[.agg (evV ⟨1, s, t, r, v⟩)] w (PrintPost ⟨1, s, t, r, v⟩ w) := by
  have C := fun w => right_any ⟨1, s, t, r, v⟩ w hz
  rw [hR] at C
  have W := Lib.hid hW
  clear hW hR
  have HP : Hid (((⟨#[112, 117, 116]⟩ ++ ⟨#[32]⟩) ++ s) ++ (((((⟨#[32]⟩ ++ t) ++ ⟨#[32]⟩) ++ r) ++ ⟨#[32]⟩) ++ v) = ⟨(printL ⟨1, s, t, r, v⟩).toArray⟩) := Lib.hid (by
    apply ByteArray.ext
    apply Array.toList_inj.1
    simp [printL, wordL, txt])
  unfold evV at C ⊢
  go_enter Tryz.func10, Tryz.ntmps10
  go_wp2_with fail
  refine (C _).mono ?_
  rintro _ w1 ⟨rfl, hx⟩
  have H1 := Lib.hid (((ext_iff.1 hx).block _ (by simp)).trans (heap_alloc_at w (.cells #[.int .i64 1, .string s, .string t, .string r, .string v] 31)))
  have X1 := Lib.hid (ext_trans (ext_alloc _ (ext_refl w)) hx)
  clear hx C
  obtain ⟨c0, c1, c2, c3, c4⟩ := ev_cells H1.out
  have lw1 := lt_of_heap H1.out
  have W1 := WordsV_ext W.out X1.out
  have lg := W1.1
  have cw := W1.2 1 (by omega)
  rw [show wordT 1 = ⟨#[112, 117, 116]⟩ from rfl] at cw
  clear W1
  have b1 : ¬ 9223372036854775807 < 4 + s.size := by omega
  go_wp2_with fail
  refine wp_region_ext (by kernel_rfl) (by kernel_rfl) ?_
  repeat (go_big_quiet_step (fail))
  refine wpQuiet_nil ?_
  rintro _ ⟨x2, rfl⟩
  have H2 := Lib.hid ((ext_heap (x := x2) lw1).trans H1.out)
  have X2 := Lib.hid (ext_trans X1.out ⟨x2, rfl⟩)
  generalize ext w1 x2 = w2 at H2 X2 ⊢
  clear H1 X1 c0 c1 c2 c3 c4 lw1 lg cw b1
  obtain ⟨c0, c1, c2, c3, c4⟩ := ev_cells H2.out
  go_wp2_with fail
  go_ret2
  exact ⟨by rw [← HP.out]; rfl, X2.out⟩
set_option maxRecDepth 100000 in
set_option maxHeartbeats 1000000 in
theorem print_del (s t r v : ByteArray) (w : World) (hz : s.size ≤ 1048576 ∧ t.size ≤ 1048576 ∧ r.size ≤ 1048576) (hR : rightE okV ⟨2, s, t, r, v⟩ = true) (hW : WordsV w) :
    Calls Tryz.prog 10 #[.agg (evV ⟨2, s, t, r, v⟩)] w (PrintPost ⟨2, s, t, r, v⟩ w) := by
  have C := fun w => right_any ⟨2, s, t, r, v⟩ w hz
  rw [hR] at C
  have W := Lib.hid hW
  clear hW hR
  have HP : Hid (((⟨#[100, 101, 108]⟩ ++ ⟨#[32]⟩) ++ s) ++ (((⟨#[32]⟩ ++ t) ++ ⟨#[32]⟩) ++ r) = ⟨(printL ⟨2, s, t, r, v⟩).toArray⟩) := Lib.hid (by
    apply ByteArray.ext
    apply Array.toList_inj.1
    simp [printL, wordL, txt])
  unfold evV at C ⊢
  go_enter Tryz.func10, Tryz.ntmps10
  go_wp2_with fail
  refine (C _).mono ?_
  rintro _ w1 ⟨rfl, hx⟩
  have H1 := Lib.hid (((ext_iff.1 hx).block _ (by simp)).trans (heap_alloc_at w (.cells #[.int .i64 2, .string s, .string t, .string r, .string v] 31)))
  have X1 := Lib.hid (ext_trans (ext_alloc _ (ext_refl w)) hx)
  clear hx C
  obtain ⟨c0, c1, c2, c3, c4⟩ := ev_cells H1.out
  have lw1 := lt_of_heap H1.out
  have W1 := WordsV_ext W.out X1.out
  have lg := W1.1
  have cw := W1.2 2 (by omega)
  rw [show wordT 2 = ⟨#[100, 101, 108]⟩ from rfl] at cw
  clear W1
  have b1 : ¬ 9223372036854775807 < 4 + s.size := by omega
  go_wp2_with fail
  refine wp_region_ext (by kernel_rfl) (by kernel_rfl) ?_
  repeat (go_big_quiet_step (fail))
  refine wpQuiet_nil ?_
  rintro _ ⟨x2, rfl⟩
  have H2 := Lib.hid ((ext_heap (x := x2) lw1).trans H1.out)
  have X2 := Lib.hid (ext_trans X1.out ⟨x2, rfl⟩)
  generalize ext w1 x2 = w2 at H2 X2 ⊢
  clear H1 X1 c0 c1 c2 c3 c4 lw1 lg cw b1
  obtain ⟨c0, c1, c2, c3, c4⟩ := ev_cells H2.out
  go_wp2_with fail
  go_ret2
  exact ⟨by rw [← HP.out]; rfl, X2.out⟩
set_option maxRecDepth 100000 in
set_option maxHeartbeats 1000000 in
theorem print_gone (s t r v : ByteArray) (w : World) (hz : s.size ≤ 1048576 ∧ t.size ≤ 1048576 ∧ r.size ≤ 1048576) (hR : rightE okV ⟨3, s, t, r, v⟩ = true) (hW : WordsV w) :
    Calls Tryz.prog 10 #[.agg (evV ⟨3, s, t, r, v⟩)] w (PrintPost ⟨3, s, t, r, v⟩ w) := by
  have C := fun w => right_any ⟨3, s, t, r, v⟩ w hz
  rw [hR] at C
  have W := Lib.hid hW
  clear hW hR
  have HP : Hid (((⟨#[103, 111, 110, 101]⟩ ++ ⟨#[32]⟩) ++ s) = ⟨(printL ⟨3, s, t, r, v⟩).toArray⟩) := Lib.hid (by
    apply ByteArray.ext
    apply Array.toList_inj.1
    simp [printL, wordL, txt])
  unfold evV at C ⊢
  go_enter Tryz.func10, Tryz.ntmps10
  go_wp2_with fail
  refine (C _).mono ?_
  rintro _ w1 ⟨rfl, hx⟩
  have H1 := Lib.hid (((ext_iff.1 hx).block _ (by simp)).trans (heap_alloc_at w (.cells #[.int .i64 3, .string s, .string t, .string r, .string v] 31)))
  have X1 := Lib.hid (ext_trans (ext_alloc _ (ext_refl w)) hx)
  clear hx C
  obtain ⟨c0, c1, c2, c3, c4⟩ := ev_cells H1.out
  have lw1 := lt_of_heap H1.out
  have W1 := WordsV_ext W.out X1.out
  have lg := W1.1
  have cw := W1.2 3 (by omega)
  rw [show wordT 3 = ⟨#[103, 111, 110, 101]⟩ from rfl] at cw
  clear W1
  have b1 : ¬ 9223372036854775807 < 5 + s.size := by omega
  go_wp2_with fail
  refine wp_region_ext (by kernel_rfl) (by kernel_rfl) ?_
  repeat (go_big_quiet_step (fail))
  refine wpQuiet_nil ?_
  rintro _ ⟨x2, rfl⟩
  have H2 := Lib.hid ((ext_heap (x := x2) lw1).trans H1.out)
  have X2 := Lib.hid (ext_trans X1.out ⟨x2, rfl⟩)
  generalize ext w1 x2 = w2 at H2 X2 ⊢
  clear H1 X1 c0 c1 c2 c3 c4 lw1 lg cw b1
  obtain ⟨c0, c1, c2, c3, c4⟩ := ev_cells H2.out
  go_wp2_with fail
  go_ret2
  exact ⟨by rw [← HP.out]; rfl, X2.out⟩
/-- What event.Print answers. -/
theorem print_any (e : Ev) (w : World) (hz : e.subject.size ≤ 1048576 ∧ e.table.size ≤ 1048576 ∧ e.row.size ≤ 1048576) (hv : e.value.size ≤ 1048576) (hW : WordsV w) :
    Calls Tryz.prog 10 #[.agg (evV e)] w fun r w' => r = .returned (.tuple #[.string ⟨(if rightE okV e = true then printL e else []).toArray⟩, if rightE okV e = true then .nilIface else errV 1]) ∧ ∃ x, w' = ext w x := by
  cases hR : rightE okV e with
  | false => simp only [Bool.false_eq_true, if_false]; exact print_bad e w hz hR
  | true =>
    simp only [if_true]
    obtain ⟨k, s, t, r, v⟩ := e
    rcases kind_cases hR with h | h | h
    · obtain rfl : k = 1 := h
      exact print_put s t r v w hz hv hR hW
    · obtain rfl : k = 2 := h
      exact print_del s t r v w hz hR hW
    · obtain rfl : k = 3 := h
      exact print_gone s t r v w hz hR hW
end Go.Proofs.YtejbeokikpoheaaGreatDoor
