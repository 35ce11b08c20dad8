/- event.Right (the walk; printed by wip/bin/gen_right.py). -/
import Derived.Test.YtnkmckdefiblhaaGreatDoorProg
import Derived.Test.YtnkmckdefiblhaaGreatDoorG2
import Derived.Test.YtnkmckdefiblhaaGreatDoorG1
import Derived.Test.YtnkmckdefiblhaaGreatDoorShelfE
namespace Go.Proofs.YtnkmckdefiblhaaGreatDoor
open Go.RowKit

/-- An event's cells. -/
def evV (e : Ev) : Array Value := #[.int .i64 e.kind, .string e.subject, .string e.table, .string e.row, .string e.value]
theorem ev_cells {w : World} {b : Nat} {k : Int} {s t r v : ByteArray} {y : TypeId} {f : Nat × Nat} (h : w.heap[b]? = some (.cells #[.int .i64 k, .string s, .string t, .string r, .string v] y f)) :
    w.cell? ⟨b, 0, none⟩ = some (.int .i64 k) ∧ w.cell? ⟨b, 1, none⟩ = some (.string s) ∧ w.cell? ⟨b, 2, none⟩ = some (.string t) ∧ w.cell? ⟨b, 3, none⟩ = some (.string r) ∧ w.cell? ⟨b, 4, none⟩ = some (.string v) := by
  refine ⟨?_, ?_, ?_, ?_, ?_⟩ <;> (rw [cell_in, h]; rfl)
/-- A rune that no value has. -/
def badRune (x : Nat) : Bool := decide ((x : Int) < 32) || decide ((126 : Int) < x)
def okV (l : List UInt8) : Bool := !decide (0 ≤ Lib.idxFunc badRune true (mkT l))
set_option maxHeartbeats 400000 in
theorem right1_any (x : Nat) (w : World) : Calls Tryz.prog 147 #[.int .i32 (x : Int)] w fun e w' => e = .returned (.bool (badRune x)) ∧ w' = w := by
  unfold badRune
  cases h1 : decide ((x : Int) < 32) with
  | true =>
    go_enter Tryz.func147, Tryz.ntmps147
    go_wp2_with fail
    go_ret
    exact ⟨rfl, rfl⟩
  | false =>
    go_enter Tryz.func147, Tryz.ntmps147
    go_wp2_with fail
    go_ret
    exact ⟨rfl, rfl⟩
theorem contains_any (s : ByteArray) (w : World) :
    Calls Tryz.prog 146 #[.string s, .func (.func 147) #[] #[]] w fun e w' => e = .returned (.bool (!okV (txt s))) ∧ ∃ x, w' = ext w x := by
  refine (Tryz.strings_ContainsFunc 147 #[] (fun args w => enters_of Tryz.func147 (by kernel_rfl) rfl args w) badRune s w ?_).mono ?_
  · intro W x _
    exact (right1_any x W).mono fun _ _ ⟨h, e⟩ => ⟨h, 0, by rw [e]; rfl⟩
  · rintro _ _ ⟨rfl, hb⟩
    refine ⟨?_, ext_of hb⟩
    unfold okV
    rw [Bool.not_not, mkT_txt]
def Res (b : Bool) (w : World) (r : Ending) (w' : World) : Prop := r = .returned (.bool b) ∧ ∃ x, w' = ext w x
set_option maxRecDepth 100000 in
set_option maxHeartbeats 1000000 in
theorem right_no (k : Int) (s t r v : ByteArray) (w : World) (hz : s.size ≤ 1048576 ∧ t.size ≤ 1048576 ∧ r.size ≤ 1048576) (hA : nameB s.data.toList = false) :
    Calls Tryz.prog 120 #[.agg #[.int .i64 k, .string s, .string t, .string r, .string v]] w (Res (false) w) := by
  have N1 := fun w => name_any s w (by omega)
  rw [hA] at N1
  go_enter Tryz.func120, Tryz.ntmps120
  go_wp2_with fail
  refine (N1 _).mono ?_
  rintro _ w1 ⟨rfl, hx⟩
  have H1 := Lib.hid (((ext_iff.1 hx).block _ (by simp)).trans (heap_alloc_at w (.cells #[.int .i64 k, .string s, .string t, .string r, .string v] 155)))
  have X1 := Lib.hid (ext_trans (ext_alloc _ (ext_refl w)) hx)
  obtain ⟨c0, c1, c2, c3, c4⟩ := ev_cells H1.out
  have lw1 := lt_of_heap H1.out
  clear hx N1
  go_wp2_with fail
  go_ret
  exact ⟨rfl, X1.out⟩
set_option maxRecDepth 100000 in
set_option maxHeartbeats 1000000 in
theorem right_other (k : Int) (s t r v : ByteArray) (w : World) (hz : s.size ≤ 1048576 ∧ t.size ≤ 1048576 ∧ r.size ≤ 1048576) (hA : nameB s.data.toList = true) (k1 : (k == 1) = false) (k2 : (k == 2) = false) (k3 : (k == 3) = false) :
    Calls Tryz.prog 120 #[.agg #[.int .i64 k, .string s, .string t, .string r, .string v]] w (Res (false) w) := by
  have N1 := fun w => name_any s w (by omega)
  rw [hA] at N1
  go_enter Tryz.func120, Tryz.ntmps120
  go_wp2_with fail
  refine (N1 _).mono ?_
  rintro _ w1 ⟨rfl, hx⟩
  have H1 := Lib.hid (((ext_iff.1 hx).block _ (by simp)).trans (heap_alloc_at w (.cells #[.int .i64 k, .string s, .string t, .string r, .string v] 155)))
  have X1 := Lib.hid (ext_trans (ext_alloc _ (ext_refl w)) hx)
  obtain ⟨c0, c1, c2, c3, c4⟩ := ev_cells H1.out
  have lw1 := lt_of_heap H1.out
  clear hx N1
  go_wp2_with fail
  go_ret
  exact ⟨rfl, X1.out⟩
set_option maxRecDepth 100000 in
set_option maxHeartbeats 1000000 in
theorem right_put_t (k : Int) (s t r v : ByteArray) (w : World) (hz : s.size ≤ 1048576 ∧ t.size ≤ 1048576 ∧ r.size ≤ 1048576) (hA : nameB s.data.toList = true) (hk : k = 1) (hB : nameB t.data.toList = false) :
    Calls Tryz.prog 120 #[.agg #[.int .i64 k, .string s, .string t, .string r, .string v]] w (Res (false) w) := by
  subst hk
  have C1 := fun w => contains_any v w
  have MhB := fun w => name_any t w (by omega)
  rw [hB] at MhB
  have N1 := fun w => name_any s w (by omega)
  rw [hA] at N1
  go_enter Tryz.func120, Tryz.ntmps120
  go_wp2_with fail
  refine (N1 _).mono ?_
  rintro _ w1 ⟨rfl, hx⟩
  have H1 := Lib.hid (((ext_iff.1 hx).block _ (by simp)).trans (heap_alloc_at w (.cells #[.int .i64 1, .string s, .string t, .string r, .string v] 155)))
  have X1 := Lib.hid (ext_trans (ext_alloc _ (ext_refl w)) hx)
  obtain ⟨c0, c1, c2, c3, c4⟩ := ev_cells H1.out
  have lw1 := lt_of_heap H1.out
  clear hx N1
  go_wp2_with fail
  refine (C1 _).mono ?_
  rintro _ w2 ⟨rfl, hx⟩
  have H2 := Lib.hid (((ext_iff.1 hx).block _ lw1).trans H1.out)
  have X2 := Lib.hid (ext_trans X1.out hx)
  clear hx c0 c1 c2 c3 c4 H1 X1 lw1
  obtain ⟨c0, c1, c2, c3, c4⟩ := ev_cells H2.out
  have lw2 := lt_of_heap H2.out
  go_wp2_with fail
  refine (MhB _).mono ?_
  rintro _ w3 ⟨rfl, hx⟩
  have H3 := Lib.hid (((ext_iff.1 hx).block _ lw2).trans H2.out)
  have X3 := Lib.hid (ext_trans X2.out hx)
  clear hx c0 c1 c2 c3 c4 H2 X2 lw2
  obtain ⟨c0, c1, c2, c3, c4⟩ := ev_cells H3.out
  have lw3 := lt_of_heap H3.out
  go_wp2_with fail
  go_ret
  exact ⟨rfl, X3.out⟩
set_option maxRecDepth 100000 in
set_option maxHeartbeats 1000000 in
theorem right_put_r (k : Int) (s t r v : ByteArray) (w : World) (hz : s.size ≤ 1048576 ∧ t.size ≤ 1048576 ∧ r.size ≤ 1048576) (hA : nameB s.data.toList = true) (hk : k = 1) (hB : nameB t.data.toList = true) (hC : nameB r.data.toList = false) :
    Calls Tryz.prog 120 #[.agg #[.int .i64 k, .string s, .string t, .string r, .string v]] w (Res (false) w) := by
  subst hk
  have C1 := fun w => contains_any v w
  have MhB := fun w => name_any t w (by omega)
  rw [hB] at MhB
  have MhC := fun w => name_any r w (by omega)
  rw [hC] at MhC
  have N1 := fun w => name_any s w (by omega)
  rw [hA] at N1
  go_enter Tryz.func120, Tryz.ntmps120
  go_wp2_with fail
  refine (N1 _).mono ?_
  rintro _ w1 ⟨rfl, hx⟩
  have H1 := Lib.hid (((ext_iff.1 hx).block _ (by simp)).trans (heap_alloc_at w (.cells #[.int .i64 1, .string s, .string t, .string r, .string v] 155)))
  have X1 := Lib.hid (ext_trans (ext_alloc _ (ext_refl w)) hx)
  obtain ⟨c0, c1, c2, c3, c4⟩ := ev_cells H1.out
  have lw1 := lt_of_heap H1.out
  clear hx N1
  go_wp2_with fail
  refine (C1 _).mono ?_
  rintro _ w2 ⟨rfl, hx⟩
  have H2 := Lib.hid (((ext_iff.1 hx).block _ lw1).trans H1.out)
  have X2 := Lib.hid (ext_trans X1.out hx)
  clear hx c0 c1 c2 c3 c4 H1 X1 lw1
  obtain ⟨c0, c1, c2, c3, c4⟩ := ev_cells H2.out
  have lw2 := lt_of_heap H2.out
  go_wp2_with fail
  refine (MhB _).mono ?_
  rintro _ w3 ⟨rfl, hx⟩
  have H3 := Lib.hid (((ext_iff.1 hx).block _ lw2).trans H2.out)
  have X3 := Lib.hid (ext_trans X2.out hx)
  clear hx c0 c1 c2 c3 c4 H2 X2 lw2
  obtain ⟨c0, c1, c2, c3, c4⟩ := ev_cells H3.out
  have lw3 := lt_of_heap H3.out
  go_wp2_with fail
  refine (MhC _).mono ?_
  rintro _ w4 ⟨rfl, hx⟩
  have H4 := Lib.hid (((ext_iff.1 hx).block _ lw3).trans H3.out)
  have X4 := Lib.hid (ext_trans X3.out hx)
  clear hx c0 c1 c2 c3 c4 H3 X3 lw3
  obtain ⟨c0, c1, c2, c3, c4⟩ := ev_cells H4.out
  have lw4 := lt_of_heap H4.out
  go_wp2_with fail
  go_ret
  exact ⟨rfl, X4.out⟩
set_option maxRecDepth 100000 in
set_option maxHeartbeats 1000000 in
theorem right_put_l (k : Int) (s t r v : ByteArray) (w : World) (hz : s.size ≤ 1048576 ∧ t.size ≤ 1048576 ∧ r.size ≤ 1048576) (hA : nameB s.data.toList = true) (hk : k = 1) (hB : nameB t.data.toList = true) (hC : nameB r.data.toList = true) (hD : ¬ (v.size : Int) ≤ 20) :
    Calls Tryz.prog 120 #[.agg #[.int .i64 k, .string s, .string t, .string r, .string v]] w (Res (false) w) := by
  subst hk
  have C1 := fun w => contains_any v w
  have MhB := fun w => name_any t w (by omega)
  rw [hB] at MhB
  have MhC := fun w => name_any r w (by omega)
  rw [hC] at MhC
  have N1 := fun w => name_any s w (by omega)
  rw [hA] at N1
  go_enter Tryz.func120, Tryz.ntmps120
  go_wp2_with fail
  refine (N1 _).mono ?_
  rintro _ w1 ⟨rfl, hx⟩
  have H1 := Lib.hid (((ext_iff.1 hx).block _ (by simp)).trans (heap_alloc_at w (.cells #[.int .i64 1, .string s, .string t, .string r, .string v] 155)))
  have X1 := Lib.hid (ext_trans (ext_alloc _ (ext_refl w)) hx)
  obtain ⟨c0, c1, c2, c3, c4⟩ := ev_cells H1.out
  have lw1 := lt_of_heap H1.out
  clear hx N1
  go_wp2_with fail
  refine (C1 _).mono ?_
  rintro _ w2 ⟨rfl, hx⟩
  have H2 := Lib.hid (((ext_iff.1 hx).block _ lw1).trans H1.out)
  have X2 := Lib.hid (ext_trans X1.out hx)
  clear hx c0 c1 c2 c3 c4 H1 X1 lw1
  obtain ⟨c0, c1, c2, c3, c4⟩ := ev_cells H2.out
  have lw2 := lt_of_heap H2.out
  go_wp2_with fail
  refine (MhB _).mono ?_
  rintro _ w3 ⟨rfl, hx⟩
  have H3 := Lib.hid (((ext_iff.1 hx).block _ lw2).trans H2.out)
  have X3 := Lib.hid (ext_trans X2.out hx)
  clear hx c0 c1 c2 c3 c4 H2 X2 lw2
  obtain ⟨c0, c1, c2, c3, c4⟩ := ev_cells H3.out
  have lw3 := lt_of_heap H3.out
  go_wp2_with fail
  refine (MhC _).mono ?_
  rintro _ w4 ⟨rfl, hx⟩
  have H4 := Lib.hid (((ext_iff.1 hx).block _ lw3).trans H3.out)
  have X4 := Lib.hid (ext_trans X3.out hx)
  clear hx c0 c1 c2 c3 c4 H3 X3 lw3
  obtain ⟨c0, c1, c2, c3, c4⟩ := ev_cells H4.out
  have lw4 := lt_of_heap H4.out
  go_wp2_with fail
  go_ret
  exact ⟨rfl, X4.out⟩
set_option maxRecDepth 100000 in
set_option maxHeartbeats 1000000 in
theorem right_put (k : Int) (s t r v : ByteArray) (w : World) (hz : s.size ≤ 1048576 ∧ t.size ≤ 1048576 ∧ r.size ≤ 1048576) (hA : nameB s.data.toList = true) (hk : k = 1) (hB : nameB t.data.toList = true) (hC : nameB r.data.toList = true) (hD : (v.size : Int) ≤ 20) :
    Calls Tryz.prog 120 #[.agg #[.int .i64 k, .string s, .string t, .string r, .string v]] w (Res (okV (txt v)) w) := by
  subst hk
  have C1 := fun w => contains_any v w
  have MhB := fun w => name_any t w (by omega)
  rw [hB] at MhB
  have MhC := fun w => name_any r w (by omega)
  rw [hC] at MhC
  generalize okV (txt v) = ok at C1 ⊢
  have N1 := fun w => name_any s w (by omega)
  rw [hA] at N1
  go_enter Tryz.func120, Tryz.ntmps120
  go_wp2_with fail
  refine (N1 _).mono ?_
  rintro _ w1 ⟨rfl, hx⟩
  have H1 := Lib.hid (((ext_iff.1 hx).block _ (by simp)).trans (heap_alloc_at w (.cells #[.int .i64 1, .string s, .string t, .string r, .string v] 155)))
  have X1 := Lib.hid (ext_trans (ext_alloc _ (ext_refl w)) hx)
  obtain ⟨c0, c1, c2, c3, c4⟩ := ev_cells H1.out
  have lw1 := lt_of_heap H1.out
  clear hx N1
  go_wp2_with fail
  refine (C1 _).mono ?_
  rintro _ w2 ⟨rfl, hx⟩
  have H2 := Lib.hid (((ext_iff.1 hx).block _ lw1).trans H1.out)
  have X2 := Lib.hid (ext_trans X1.out hx)
  clear hx c0 c1 c2 c3 c4 H1 X1 lw1
  obtain ⟨c0, c1, c2, c3, c4⟩ := ev_cells H2.out
  have lw2 := lt_of_heap H2.out
  go_wp2_with fail
  refine (MhB _).mono ?_
  rintro _ w3 ⟨rfl, hx⟩
  have H3 := Lib.hid (((ext_iff.1 hx).block _ lw2).trans H2.out)
  have X3 := Lib.hid (ext_trans X2.out hx)
  clear hx c0 c1 c2 c3 c4 H2 X2 lw2
  obtain ⟨c0, c1, c2, c3, c4⟩ := ev_cells H3.out
  have lw3 := lt_of_heap H3.out
  go_wp2_with fail
  refine (MhC _).mono ?_
  rintro _ w4 ⟨rfl, hx⟩
  have H4 := Lib.hid (((ext_iff.1 hx).block _ lw3).trans H3.out)
  have X4 := Lib.hid (ext_trans X3.out hx)
  clear hx c0 c1 c2 c3 c4 H3 X3 lw3
  obtain ⟨c0, c1, c2, c3, c4⟩ := ev_cells H4.out
  have lw4 := lt_of_heap H4.out
  go_wp2_with fail
  go_ret
  exact ⟨rfl, X4.out⟩
set_option maxRecDepth 100000 in
set_option maxHeartbeats 1000000 in
theorem right_del_t (k : Int) (s t r v : ByteArray) (w : World) (hz : s.size ≤ 1048576 ∧ t.size ≤ 1048576 ∧ r.size ≤ 1048576) (hA : nameB s.data.toList = true) (hk : k = 2) (hB : nameB t.data.toList = false) :
    Calls Tryz.prog 120 #[.agg #[.int .i64 k, .string s, .string t, .string r, .string v]] w (Res (false) w) := by
  subst hk
  have MhB := fun w => name_any t w (by omega)
  rw [hB] at MhB
  have N1 := fun w => name_any s w (by omega)
  rw [hA] at N1
  go_enter Tryz.func120, Tryz.ntmps120
  go_wp2_with fail
  refine (N1 _).mono ?_
  rintro _ w1 ⟨rfl, hx⟩
  have H1 := Lib.hid (((ext_iff.1 hx).block _ (by simp)).trans (heap_alloc_at w (.cells #[.int .i64 2, .string s, .string t, .string r, .string v] 155)))
  have X1 := Lib.hid (ext_trans (ext_alloc _ (ext_refl w)) hx)
  obtain ⟨c0, c1, c2, c3, c4⟩ := ev_cells H1.out
  have lw1 := lt_of_heap H1.out
  clear hx N1
  go_wp2_with fail
  refine (MhB _).mono ?_
  rintro _ w2 ⟨rfl, hx⟩
  have H2 := Lib.hid (((ext_iff.1 hx).block _ lw1).trans H1.out)
  have X2 := Lib.hid (ext_trans X1.out hx)
  clear hx c0 c1 c2 c3 c4 H1 X1 lw1
  obtain ⟨c0, c1, c2, c3, c4⟩ := ev_cells H2.out
  have lw2 := lt_of_heap H2.out
  go_wp2_with fail
  go_ret
  exact ⟨rfl, X2.out⟩
set_option maxRecDepth 100000 in
set_option maxHeartbeats 1000000 in
theorem right_del_r (k : Int) (s t r v : ByteArray) (w : World) (hz : s.size ≤ 1048576 ∧ t.size ≤ 1048576 ∧ r.size ≤ 1048576) (hA : nameB s.data.toList = true) (hk : k = 2) (hB : nameB t.data.toList = true) (hC : nameB r.data.toList = false) :
    Calls Tryz.prog 120 #[.agg #[.int .i64 k, .string s, .string t, .string r, .string v]] w (Res (false) w) := by
  subst hk
  have MhB := fun w => name_any t w (by omega)
  rw [hB] at MhB
  have MhC := fun w => name_any r w (by omega)
  rw [hC] at MhC
  have N1 := fun w => name_any s w (by omega)
  rw [hA] at N1
  go_enter Tryz.func120, Tryz.ntmps120
  go_wp2_with fail
  refine (N1 _).mono ?_
  rintro _ w1 ⟨rfl, hx⟩
  have H1 := Lib.hid (((ext_iff.1 hx).block _ (by simp)).trans (heap_alloc_at w (.cells #[.int .i64 2, .string s, .string t, .string r, .string v] 155)))
  have X1 := Lib.hid (ext_trans (ext_alloc _ (ext_refl w)) hx)
  obtain ⟨c0, c1, c2, c3, c4⟩ := ev_cells H1.out
  have lw1 := lt_of_heap H1.out
  clear hx N1
  go_wp2_with fail
  refine (MhB _).mono ?_
  rintro _ w2 ⟨rfl, hx⟩
  have H2 := Lib.hid (((ext_iff.1 hx).block _ lw1).trans H1.out)
  have X2 := Lib.hid (ext_trans X1.out hx)
  clear hx c0 c1 c2 c3 c4 H1 X1 lw1
  obtain ⟨c0, c1, c2, c3, c4⟩ := ev_cells H2.out
  have lw2 := lt_of_heap H2.out
  go_wp2_with fail
  refine (MhC _).mono ?_
  rintro _ w3 ⟨rfl, hx⟩
  have H3 := Lib.hid (((ext_iff.1 hx).block _ lw2).trans H2.out)
  have X3 := Lib.hid (ext_trans X2.out hx)
  clear hx c0 c1 c2 c3 c4 H2 X2 lw2
  obtain ⟨c0, c1, c2, c3, c4⟩ := ev_cells H3.out
  have lw3 := lt_of_heap H3.out
  go_wp2_with fail
  go_ret
  exact ⟨rfl, X3.out⟩
set_option maxRecDepth 100000 in
set_option maxHeartbeats 1000000 in
theorem right_del (k : Int) (s t r v : ByteArray) (w : World) (hz : s.size ≤ 1048576 ∧ t.size ≤ 1048576 ∧ r.size ≤ 1048576) (hA : nameB s.data.toList = true) (hk : k = 2) (hB : nameB t.data.toList = true) (hC : nameB r.data.toList = true) :
    Calls Tryz.prog 120 #[.agg #[.int .i64 k, .string s, .string t, .string r, .string v]] w (Res (v.toList.isEmpty) w) := by
  subst hk
  have MhB := fun w => name_any t w (by omega)
  rw [hB] at MhB
  have MhC := fun w => name_any r w (by omega)
  rw [hC] at MhC
  have N1 := fun w => name_any s w (by omega)
  rw [hA] at N1
  go_enter Tryz.func120, Tryz.ntmps120
  go_wp2_with fail
  refine (N1 _).mono ?_
  rintro _ w1 ⟨rfl, hx⟩
  have H1 := Lib.hid (((ext_iff.1 hx).block _ (by simp)).trans (heap_alloc_at w (.cells #[.int .i64 2, .string s, .string t, .string r, .string v] 155)))
  have X1 := Lib.hid (ext_trans (ext_alloc _ (ext_refl w)) hx)
  obtain ⟨c0, c1, c2, c3, c4⟩ := ev_cells H1.out
  have lw1 := lt_of_heap H1.out
  clear hx N1
  go_wp2_with fail
  refine (MhB _).mono ?_
  rintro _ w2 ⟨rfl, hx⟩
  have H2 := Lib.hid (((ext_iff.1 hx).block _ lw1).trans H1.out)
  have X2 := Lib.hid (ext_trans X1.out hx)
  clear hx c0 c1 c2 c3 c4 H1 X1 lw1
  obtain ⟨c0, c1, c2, c3, c4⟩ := ev_cells H2.out
  have lw2 := lt_of_heap H2.out
  go_wp2_with fail
  refine (MhC _).mono ?_
  rintro _ w3 ⟨rfl, hx⟩
  have H3 := Lib.hid (((ext_iff.1 hx).block _ lw2).trans H2.out)
  have X3 := Lib.hid (ext_trans X2.out hx)
  clear hx c0 c1 c2 c3 c4 H2 X2 lw2
  obtain ⟨c0, c1, c2, c3, c4⟩ := ev_cells H3.out
  have lw3 := lt_of_heap H3.out
  go_wp2_with fail
  go_ret
  exact ⟨rfl, X3.out⟩
set_option maxRecDepth 100000 in
set_option maxHeartbeats 1000000 in
theorem right_gone_t (k : Int) (s t r v : ByteArray) (w : World) (hz : s.size ≤ 1048576 ∧ t.size ≤ 1048576 ∧ r.size ≤ 1048576) (hA : nameB s.data.toList = true) (hk : k = 3) (hB : t.toList.isEmpty = false) :
    Calls Tryz.prog 120 #[.agg #[.int .i64 k, .string s, .string t, .string r, .string v]] w (Res (false) w) := by
  subst hk
  have N1 := fun w => name_any s w (by omega)
  rw [hA] at N1
  go_enter Tryz.func120, Tryz.ntmps120
  go_wp2_with fail
  refine (N1 _).mono ?_
  rintro _ w1 ⟨rfl, hx⟩
  have H1 := Lib.hid (((ext_iff.1 hx).block _ (by simp)).trans (heap_alloc_at w (.cells #[.int .i64 3, .string s, .string t, .string r, .string v] 155)))
  have X1 := Lib.hid (ext_trans (ext_alloc _ (ext_refl w)) hx)
  obtain ⟨c0, c1, c2, c3, c4⟩ := ev_cells H1.out
  have lw1 := lt_of_heap H1.out
  clear hx N1
  go_wp2_with fail
  go_ret
  exact ⟨rfl, X1.out⟩
set_option maxRecDepth 100000 in
set_option maxHeartbeats 1000000 in
theorem right_gone_r (k : Int) (s t r v : ByteArray) (w : World) (hz : s.size ≤ 1048576 ∧ t.size ≤ 1048576 ∧ r.size ≤ 1048576) (hA : nameB s.data.toList = true) (hk : k = 3) (hB : t.toList.isEmpty = true) (hC : r.toList.isEmpty = false) :
    Calls Tryz.prog 120 #[.agg #[.int .i64 k, .string s, .string t, .string r, .string v]] w (Res (false) w) := by
  subst hk
  have N1 := fun w => name_any s w (by omega)
  rw [hA] at N1
  go_enter Tryz.func120, Tryz.ntmps120
  go_wp2_with fail
  refine (N1 _).mono ?_
  rintro _ w1 ⟨rfl, hx⟩
  have H1 := Lib.hid (((ext_iff.1 hx).block _ (by simp)).trans (heap_alloc_at w (.cells #[.int .i64 3, .string s, .string t, .string r, .string v] 155)))
  have X1 := Lib.hid (ext_trans (ext_alloc _ (ext_refl w)) hx)
  obtain ⟨c0, c1, c2, c3, c4⟩ := ev_cells H1.out
  have lw1 := lt_of_heap H1.out
  clear hx N1
  go_wp2_with fail
  go_ret
  exact ⟨rfl, X1.out⟩
set_option maxRecDepth 100000 in
set_option maxHeartbeats 1000000 in
theorem right_gone (k : Int) (s t r v : ByteArray) (w : World) (hz : s.size ≤ 1048576 ∧ t.size ≤ 1048576 ∧ r.size ≤ 1048576) (hA : nameB s.data.toList = true) (hk : k = 3) (hB : t.toList.isEmpty = true) (hC : r.toList.isEmpty = true) :
    Calls Tryz.prog 120 #[.agg #[.int .i64 k, .string s, .string t, .string r, .string v]] w (Res (v.toList.isEmpty) w) := by
  subst hk
  have N1 := fun w => name_any s w (by omega)
  rw [hA] at N1
  go_enter Tryz.func120, Tryz.ntmps120
  go_wp2_with fail
  refine (N1 _).mono ?_
  rintro _ w1 ⟨rfl, hx⟩
  have H1 := Lib.hid (((ext_iff.1 hx).block _ (by simp)).trans (heap_alloc_at w (.cells #[.int .i64 3, .string s, .string t, .string r, .string v] 155)))
  have X1 := Lib.hid (ext_trans (ext_alloc _ (ext_refl w)) hx)
  obtain ⟨c0, c1, c2, c3, c4⟩ := ev_cells H1.out
  have lw1 := lt_of_heap H1.out
  clear hx N1
  go_wp2_with fail
  go_ret
  exact ⟨rfl, X1.out⟩
theorem isEmpty_is (s : ByteArray) : s.toList.isEmpty = decide (s.size = 0) := by
  have hl : s.data.toList.length = s.size := by rw [Array.length_toList]; rfl
  rw [Lib.toList_data]
  cases h : s.data.toList with
  | nil => rw [h] at hl; rw [← hl]; rfl
  | cons a l => rw [h] at hl; rw [← hl]; rfl
/-- What event.Right answers. -/
theorem right_any (e : Ev) (w : World) (hz : e.subject.size ≤ 1048576 ∧ e.table.size ≤ 1048576 ∧ e.row.size ≤ 1048576) :
    Calls Tryz.prog 120 #[.agg (evV e)] w (Res (rightE okV e) w) := by
  obtain ⟨k, s, t, r, v⟩ := e
  unfold rightE
  show Calls Tryz.prog 120 #[.agg #[.int .i64 k, .string s, .string t, .string r, .string v]] w _
  dsimp only at hz ⊢
  unfold txt
  cases hA : nameB s.data.toList with
  | false => rw [Bool.false_and]; exact right_no k s t r v w hz hA
  | true =>
    rw [Bool.true_and]
    by_cases k1 : k = 1
    · rw [if_pos k1]
      cases hB : nameB t.data.toList with
      | false => simpa using right_put_t k s t r v w hz hA k1 hB
      | true =>
        cases hC : nameB r.data.toList with
        | false => simpa using right_put_r k s t r v w hz hA k1 hB hC
        | true =>
          by_cases hD : (v.size : Int) ≤ 20
          · have := right_put k s t r v w hz hA k1 hB hC hD
            rw [show decide (v.size ≤ 20) = true by rw [decide_eq_true_iff]; omega]
            exact this
          · have := right_put_l k s t r v w hz hA k1 hB hC hD
            rw [show decide (v.size ≤ 20) = false by rw [decide_eq_false_iff_not]; omega]
            simpa using this
    · rw [if_neg k1]
      by_cases k2 : k = 2
      · rw [if_pos k2]
        cases hB : nameB t.data.toList with
        | false => simpa using right_del_t k s t r v w hz hA k2 hB
        | true =>
          cases hC : nameB r.data.toList with
          | false => simpa using right_del_r k s t r v w hz hA k2 hB hC
          | true =>
            have := right_del k s t r v w hz hA k2 hB hC
            rw [isEmpty_is] at this
            simpa using this
      · rw [if_neg k2]
        by_cases k3 : k = 3
        · rw [if_pos k3]
          cases hB : t.toList.isEmpty with
          | false =>
            have := right_gone_t k s t r v w hz hA k3 hB
            rw [isEmpty_is] at hB
            rw [hB]; simpa using this
          | true =>
            cases hC : r.toList.isEmpty with
            | false =>
              have := right_gone_r k s t r v w hz hA k3 hB hC
              rw [isEmpty_is] at hB hC
              rw [hB, hC]; simpa using this
            | true =>
              have := right_gone k s t r v w hz hA k3 hB hC
              rw [isEmpty_is] at hB hC this
              rw [hB, hC]; simpa using this
        · rw [if_neg k3]
          exact right_other k s t r v w hz hA (by simpa using k1) (by simpa using k2) (by simpa using k3)
end Go.Proofs.YtnkmckdefiblhaaGreatDoor
