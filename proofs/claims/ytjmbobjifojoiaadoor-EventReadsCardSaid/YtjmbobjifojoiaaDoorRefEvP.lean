/- oublietteref.Print (the walk). -/
import Derived.Test.YtjmbobjifojoiaaDoorProg
import Derived.Test.YtjmbobjifojoiaaDoorRefEvR
import Derived.Test.YtjmbobjifojoiaaDoorEvPrint
namespace Go.Proofs.YtjmbobjifojoiaaDoor
open Go.RowKit

theorem pick4_1 (a b c d : ByteArray) (w : World) : (Instr.index 123 (.agg #[.string a, .string b, .string c, .string d]) (.int .i64 1)).run Tryd.prog w = .ok (.string b) w := by kernel_rfl
theorem pick4_2 (a b c d : ByteArray) (w : World) : (Instr.index 123 (.agg #[.string a, .string b, .string c, .string d]) (.int .i64 2)).run Tryd.prog w = .ok (.string c) w := by kernel_rfl
theorem pick4_3 (a b c d : ByteArray) (w : World) : (Instr.index 123 (.agg #[.string a, .string b, .string c, .string d]) (.int .i64 3)).run Tryd.prog w = .ok (.string d) w := by kernel_rfl

set_option maxRecDepth 100000 in
set_option maxHeartbeats 1000000 in
theorem rprint_bad (e : Ev) (w : World) (hz : e.subject.size ≤ 1048576 ∧ e.table.size ≤ 1048576 ∧ e.row.size ≤ 1048576 ∧ e.value.size ≤ 1048576) (hR : rightE okR e = false) :
    Calls Tryd.prog 47 #[.agg (evV e)] w fun r w' => r = .returned (.tuple #[.string ⟨#[]⟩, .int .i64 1]) ∧ ∃ x, w' = ext w x := by
  have C := fun w => rright_any e w hz
  rw [hR] at C
  unfold evV at C ⊢
  go_enter Tryd.func47, Tryd.ntmps47
  go_wp2_with fail
  refine (C _).mono ?_
  rintro _ w1 ⟨rfl, hx⟩
  have X1 := Lib.hid (ext_trans (ext_alloc _ (ext_refl w)) hx)
  clear hx C
  go_wp2_with fail
  go_ret2
  exact ⟨rfl, X1.out⟩

set_option maxRecDepth 100000 in
set_option maxHeartbeats 1000000 in
theorem rprint_1 (s t r v : ByteArray) (w : World) (hz : s.size ≤ 1048576 ∧ t.size ≤ 1048576 ∧ r.size ≤ 1048576 ∧ v.size ≤ 1048576) (hR : rightE okR ⟨1, s, t, r, v⟩ = true) :
    Calls Tryd.prog 47 #[.agg (evV ⟨1, s, t, r, v⟩)] w fun r' w' => r' = .returned (.tuple #[.string ⟨(printL ⟨1, s, t, r, v⟩).toArray⟩, .int .i64 0]) ∧ ∃ x, w' = ext w x := by
  have C := fun w => rright_any ⟨1, s, t, r, v⟩ w hz
  rw [hR] at C
  clear hR
  have HP : Hid (((((((((⟨#[112, 117, 116, 32]⟩ ++ s) ++ ⟨#[32]⟩) ++ t) ++ ⟨#[32]⟩) ++ r) ++ ⟨#[32]⟩) ++ v) : ByteArray) = ⟨(printL ⟨1, s, t, r, v⟩).toArray⟩) := Lib.hid (by
    apply ByteArray.ext
    apply Array.toList_inj.1
    simp [printL, wordL, txt])
  have hp := pick4_1
  unfold evV at C ⊢
  go_enter Tryd.func47, Tryd.ntmps47
  go_wp2_with fail
  refine (C _).mono ?_
  rintro _ w1 ⟨rfl, hx⟩
  have H1 := Lib.hid (((ext_iff.1 hx).block _ (by simp)).trans (heap_alloc_at w (.cells #[.int .i64 1, .string s, .string t, .string r, .string v] 54)))
  have X1 := Lib.hid (ext_trans (ext_alloc _ (ext_refl w)) hx)
  clear hx C
  obtain ⟨c0, c1, c2, c3, c4⟩ := ev_cells H1.out
  go_wp2_with fail
  go_ret2
  exact ⟨by rw [← HP.out]; rfl, X1.out⟩

set_option maxRecDepth 100000 in
set_option maxHeartbeats 1000000 in
theorem rprint_2 (s t r v : ByteArray) (w : World) (hz : s.size ≤ 1048576 ∧ t.size ≤ 1048576 ∧ r.size ≤ 1048576 ∧ v.size ≤ 1048576) (hR : rightE okR ⟨2, s, t, r, v⟩ = true) :
    Calls Tryd.prog 47 #[.agg (evV ⟨2, s, t, r, v⟩)] w fun r' w' => r' = .returned (.tuple #[.string ⟨(printL ⟨2, s, t, r, v⟩).toArray⟩, .int .i64 0]) ∧ ∃ x, w' = ext w x := by
  have C := fun w => rright_any ⟨2, s, t, r, v⟩ w hz
  rw [hR] at C
  clear hR
  have HP : Hid (((((((⟨#[100, 101, 108, 32]⟩ ++ s) ++ ⟨#[32]⟩) ++ t) ++ ⟨#[32]⟩) ++ r) : ByteArray) = ⟨(printL ⟨2, s, t, r, v⟩).toArray⟩) := Lib.hid (by
    apply ByteArray.ext
    apply Array.toList_inj.1
    simp [printL, wordL, txt])
  have hp := pick4_2
  unfold evV at C ⊢
  go_enter Tryd.func47, Tryd.ntmps47
  go_wp2_with fail
  refine (C _).mono ?_
  rintro _ w1 ⟨rfl, hx⟩
  have H1 := Lib.hid (((ext_iff.1 hx).block _ (by simp)).trans (heap_alloc_at w (.cells #[.int .i64 2, .string s, .string t, .string r, .string v] 54)))
  have X1 := Lib.hid (ext_trans (ext_alloc _ (ext_refl w)) hx)
  clear hx C
  obtain ⟨c0, c1, c2, c3, c4⟩ := ev_cells H1.out
  go_wp2_with fail
  go_ret2
  exact ⟨by rw [← HP.out]; rfl, X1.out⟩

set_option maxRecDepth 100000 in
set_option maxHeartbeats 1000000 in
theorem rprint_3 (s t r v : ByteArray) (w : World) (hz : s.size ≤ 1048576 ∧ t.size ≤ 1048576 ∧ r.size ≤ 1048576 ∧ v.size ≤ 1048576) (hR : rightE okR ⟨3, s, t, r, v⟩ = true) :
    Calls Tryd.prog 47 #[.agg (evV ⟨3, s, t, r, v⟩)] w fun r' w' => r' = .returned (.tuple #[.string ⟨(printL ⟨3, s, t, r, v⟩).toArray⟩, .int .i64 0]) ∧ ∃ x, w' = ext w x := by
  have C := fun w => rright_any ⟨3, s, t, r, v⟩ w hz
  rw [hR] at C
  clear hR
  have HP : Hid (((⟨#[103, 111, 110, 101, 32]⟩ ++ s) : ByteArray) = ⟨(printL ⟨3, s, t, r, v⟩).toArray⟩) := Lib.hid (by
    apply ByteArray.ext
    apply Array.toList_inj.1
    simp [printL, wordL, txt])
  have hp := pick4_3
  unfold evV at C ⊢
  go_enter Tryd.func47, Tryd.ntmps47
  go_wp2_with fail
  refine (C _).mono ?_
  rintro _ w1 ⟨rfl, hx⟩
  have H1 := Lib.hid (((ext_iff.1 hx).block _ (by simp)).trans (heap_alloc_at w (.cells #[.int .i64 3, .string s, .string t, .string r, .string v] 54)))
  have X1 := Lib.hid (ext_trans (ext_alloc _ (ext_refl w)) hx)
  clear hx C
  obtain ⟨c0, c1, c2, c3, c4⟩ := ev_cells H1.out
  go_wp2_with fail
  go_ret2
  exact ⟨by rw [← HP.out]; rfl, X1.out⟩

/-- What oublietteref.Print answers. -/
theorem rprint_any (e : Ev) (w : World) (hz : e.subject.size ≤ 1048576 ∧ e.table.size ≤ 1048576 ∧ e.row.size ≤ 1048576 ∧ e.value.size ≤ 1048576) :
    Calls Tryd.prog 47 #[.agg (evV e)] w fun r w' => r = .returned (.tuple #[.string ⟨(if rightE okR e = true then printL e else []).toArray⟩, .int .i64 (if rightE okR e = true then 0 else 1)]) ∧ ∃ x, w' = ext w x := by
  cases hR : rightE okR e with
  | false => simp only [Bool.false_eq_true, if_false]; exact rprint_bad e w hz hR
  | true =>
    simp only [if_true]
    obtain ⟨k, s, t, r, v⟩ := e
    rcases kind_cases hR with h | h | h
    · obtain rfl : k = 1 := h
      exact rprint_1 s t r v w hz hR
    · obtain rfl : k = 2 := h
      exact rprint_2 s t r v w hz hR
    · obtain rfl : k = 3 := h
      exact rprint_3 s t r v w hz hR
end Go.Proofs.YtjmbobjifojoiaaDoor
