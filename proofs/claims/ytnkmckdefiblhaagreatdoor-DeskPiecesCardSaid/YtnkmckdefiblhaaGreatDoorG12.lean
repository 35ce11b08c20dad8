/- event.Print (the walk). · event.Parse: the library's calls; what they give. -/
import Derived.Test.YtnkmckdefiblhaaGreatDoorProg
import Derived.Test.YtnkmckdefiblhaaGreatDoorG3
import Derived.Test.YtnkmckdefiblhaaGreatDoorG11
import Derived.Deep.RegionHeld3
import Derived.Laws.ResultCell
import Derived.Laws.Rows
namespace Go.Proofs.YtnkmckdefiblhaaGreatDoor
open Go.RowKit

def wordT (j : Nat) : ByteArray := mkT (wordL j)
/-- The package's words. -/
def WordsV (w : World) : Prop := 6 < w.heap.size ∧ ∀ j, j < 4 → w.cell? ⟨6, j, none⟩ = some (.string (wordT j))
theorem WordsV_of {w w' : World} (h : WordsV w) (hh : ∀ k, k < w.heap.size → w'.heap[k]? = w.heap[k]?) (hs : w.heap.size ≤ w'.heap.size) : WordsV w' :=
  ⟨Nat.lt_of_lt_of_le h.1 hs, fun j hj => by have := h.2 j hj; rw [cell_in] at this ⊢; rw [hh _ h.1]; exact this⟩
theorem WordsV_ext {w w' : World} (h : WordsV w) (hx : ∃ x, w' = ext w x) : WordsV w' := WordsV_of h (fun _ hk => (ext_iff.1 hx).block _ hk) (ext_iff.1 hx).size

def PrintPost (e : Ev) (w : World) (r : Ending) (w' : World) : Prop := r = .returned (.tuple #[.string ⟨(printL e).toArray⟩, .nilIface]) ∧ ∃ x, w' = ext w x

set_option maxRecDepth 100000 in
set_option maxHeartbeats 1000000 in
theorem print_bad (e : Ev) (w : World) (hz : e.subject.size ≤ 1048576 ∧ e.table.size ≤ 1048576 ∧ e.row.size ≤ 1048576) (hR : rightE okV e = false) :
    Calls Tryz.prog 148 #[.agg (evV e)] w fun r w' => r = .returned (.tuple #[.string ⟨#[]⟩, errV 1]) ∧ ∃ x, w' = ext w x := by
  have C := fun w => right_any e w hz
  rw [hR] at C
  unfold evV at C ⊢
  go_enter Tryz.func148, Tryz.ntmps148
  go_wp2_with fail
  refine (C _).mono ?_
  rintro _ w1 ⟨rfl, hx⟩
  have X1 := Lib.hid (ext_trans (ext_alloc _ (ext_refl w)) hx)
  clear hx C
  go_wp2_with fail
  go_ret2
  exact ⟨rfl, X1.out⟩

set_option maxRecDepth 100000 in
set_option maxHeartbeats 1000000 in
theorem print_put (s t r v : ByteArray) (w : World) (hz : s.size ≤ 1048576 ∧ t.size ≤ 1048576 ∧ r.size ≤ 1048576) (hv : v.size ≤ 1048576) (hR : rightE okV ⟨1, s, t, r, v⟩ = true) (hW : WordsV w) :
    Calls Tryz.prog 148 #[.agg (evV ⟨1, s, t, r, v⟩)] w (PrintPost ⟨1, s, t, r, v⟩ w) := by
  have C := fun w => right_any ⟨1, s, t, r, v⟩ w hz
  rw [hR] at C
  have W := Lib.hid hW
  clear hW hR
  have HP : Hid (((⟨#[112, 117, 116]⟩ ++ ⟨#[32]⟩) ++ s) ++ (((((⟨#[32]⟩ ++ t) ++ ⟨#[32]⟩) ++ r) ++ ⟨#[32]⟩) ++ v) = ⟨(printL ⟨1, s, t, r, v⟩).toArray⟩) := Lib.hid (by
    apply ByteArray.ext
    apply Array.toList_inj.1
    simp [printL, wordL, txt])
  unfold evV at C ⊢
  go_enter Tryz.func148, Tryz.ntmps148
  go_wp2_with fail
  refine (C _).mono ?_
  rintro _ w1 ⟨rfl, hx⟩
  have H1 := Lib.hid (((ext_iff.1 hx).block _ (by simp)).trans (heap_alloc_at w (.cells #[.int .i64 1, .string s, .string t, .string r, .string v] 155)))
  have X1 := Lib.hid (ext_trans (ext_alloc _ (ext_refl w)) hx)
  clear hx C
  obtain ⟨c0, c1, c2, c3, c4⟩ := ev_cells H1.out
  have lw1 := lt_of_heap H1.out
  have W1 := WordsV_ext W.out X1.out
  have lg := W1.1
  have cw := W1.2 1 (by omega)
  rw [show wordT 1 = ⟨#[112, 117, 116]⟩ from rfl] at cw
  clear W1
  have b1 : ¬ 9223372036854775807 < 4 + s.size := by omega
  go_wp2_with fail
  refine wp_region_ext (by kernel_rfl) (by kernel_rfl) ?_
  repeat (go_big_quiet_step (fail))
  refine wpQuiet_nil ?_
  rintro _ ⟨x2, rfl⟩
  have H2 := Lib.hid ((ext_heap (x := x2) lw1).trans H1.out)
  have X2 := Lib.hid (ext_trans X1.out ⟨x2, rfl⟩)
  generalize ext w1 x2 = w2 at H2 X2 ⊢
  clear H1 X1 c0 c1 c2 c3 c4 lw1 lg cw b1
  obtain ⟨c0, c1, c2, c3, c4⟩ := ev_cells H2.out
  go_wp2_with fail
  go_ret2
  exact ⟨by rw [← HP.out]; rfl, X2.out⟩
set_option maxRecDepth 100000 in
set_option maxHeartbeats 1000000 in
theorem print_del (s t r v : ByteArray) (w : World) (hz : s.size ≤ 1048576 ∧ t.size ≤ 1048576 ∧ r.size ≤ 1048576) (hR : rightE okV ⟨2, s, t, r, v⟩ = true) (hW : WordsV w) :
    Calls Tryz.prog 148 #[.agg (evV ⟨2, s, t, r, v⟩)] w (PrintPost ⟨2, s, t, r, v⟩ w) := by
  have C := fun w => right_any ⟨2, s, t, r, v⟩ w hz
  rw [hR] at C
  have W := Lib.hid hW
  clear hW hR
  have HP : Hid (((⟨#[100, 101, 108]⟩ ++ ⟨#[32]⟩) ++ s) ++ (((⟨#[32]⟩ ++ t) ++ ⟨#[32]⟩) ++ r) = ⟨(printL ⟨2, s, t, r, v⟩).toArray⟩) := Lib.hid (by
    apply ByteArray.ext
    apply Array.toList_inj.1
    simp [printL, wordL, txt])
  unfold evV at C ⊢
  go_enter Tryz.func148, Tryz.ntmps148
  go_wp2_with fail
  refine (C _).mono ?_
  rintro _ w1 ⟨rfl, hx⟩
  have H1 := Lib.hid (((ext_iff.1 hx).block _ (by simp)).trans (heap_alloc_at w (.cells #[.int .i64 2, .string s, .string t, .string r, .string v] 155)))
  have X1 := Lib.hid (ext_trans (ext_alloc _ (ext_refl w)) hx)
  clear hx C
  obtain ⟨c0, c1, c2, c3, c4⟩ := ev_cells H1.out
  have lw1 := lt_of_heap H1.out
  have W1 := WordsV_ext W.out X1.out
  have lg := W1.1
  have cw := W1.2 2 (by omega)
  rw [show wordT 2 = ⟨#[100, 101, 108]⟩ from rfl] at cw
  clear W1
  have b1 : ¬ 9223372036854775807 < 4 + s.size := by omega
  go_wp2_with fail
  refine wp_region_ext (by kernel_rfl) (by kernel_rfl) ?_
  repeat (go_big_quiet_step (fail))
  refine wpQuiet_nil ?_
  rintro _ ⟨x2, rfl⟩
  have H2 := Lib.hid ((ext_heap (x := x2) lw1).trans H1.out)
  have X2 := Lib.hid (ext_trans X1.out ⟨x2, rfl⟩)
  generalize ext w1 x2 = w2 at H2 X2 ⊢
  clear H1 X1 c0 c1 c2 c3 c4 lw1 lg cw b1
  obtain ⟨c0, c1, c2, c3, c4⟩ := ev_cells H2.out
  go_wp2_with fail
  go_ret2
  exact ⟨by rw [← HP.out]; rfl, X2.out⟩
set_option maxRecDepth 100000 in
set_option maxHeartbeats 1000000 in
theorem print_gone (s t r v : ByteArray) (w : World) (hz : s.size ≤ 1048576 ∧ t.size ≤ 1048576 ∧ r.size ≤ 1048576) (hR : rightE okV ⟨3, s, t, r, v⟩ = true) (hW : WordsV w) :
    Calls Tryz.prog 148 #[.agg (evV ⟨3, s, t, r, v⟩)] w (PrintPost ⟨3, s, t, r, v⟩ w) := by
  have C := fun w => right_any ⟨3, s, t, r, v⟩ w hz
  rw [hR] at C
  have W := Lib.hid hW
  clear hW hR
  have HP : Hid (((⟨#[103, 111, 110, 101]⟩ ++ ⟨#[32]⟩) ++ s) = ⟨(printL ⟨3, s, t, r, v⟩).toArray⟩) := Lib.hid (by
    apply ByteArray.ext
    apply Array.toList_inj.1
    simp [printL, wordL, txt])
  unfold evV at C ⊢
  go_enter Tryz.func148, Tryz.ntmps148
  go_wp2_with fail
  refine (C _).mono ?_
  rintro _ w1 ⟨rfl, hx⟩
  have H1 := Lib.hid (((ext_iff.1 hx).block _ (by simp)).trans (heap_alloc_at w (.cells #[.int .i64 3, .string s, .string t, .string r, .string v] 155)))
  have X1 := Lib.hid (ext_trans (ext_alloc _ (ext_refl w)) hx)
  clear hx C
  obtain ⟨c0, c1, c2, c3, c4⟩ := ev_cells H1.out
  have lw1 := lt_of_heap H1.out
  have W1 := WordsV_ext W.out X1.out
  have lg := W1.1
  have cw := W1.2 3 (by omega)
  rw [show wordT 3 = ⟨#[103, 111, 110, 101]⟩ from rfl] at cw
  clear W1
  have b1 : ¬ 9223372036854775807 < 5 + s.size := by omega
  go_wp2_with fail
  refine wp_region_ext (by kernel_rfl) (by kernel_rfl) ?_
  repeat (go_big_quiet_step (fail))
  refine wpQuiet_nil ?_
  rintro _ ⟨x2, rfl⟩
  have H2 := Lib.hid ((ext_heap (x := x2) lw1).trans H1.out)
  have X2 := Lib.hid (ext_trans X1.out ⟨x2, rfl⟩)
  generalize ext w1 x2 = w2 at H2 X2 ⊢
  clear H1 X1 c0 c1 c2 c3 c4 lw1 lg cw b1
  obtain ⟨c0, c1, c2, c3, c4⟩ := ev_cells H2.out
  go_wp2_with fail
  go_ret2
  exact ⟨by rw [← HP.out]; rfl, X2.out⟩
/-- What event.Print answers. -/
theorem print_any (e : Ev) (w : World) (hz : e.subject.size ≤ 1048576 ∧ e.table.size ≤ 1048576 ∧ e.row.size ≤ 1048576) (hv : e.value.size ≤ 1048576) (hW : WordsV w) :
    Calls Tryz.prog 148 #[.agg (evV e)] w fun r w' => r = .returned (.tuple #[.string ⟨(if rightE okV e = true then printL e else []).toArray⟩, if rightE okV e = true then .nilIface else errV 1]) ∧ ∃ x, w' = ext w x := by
  cases hR : rightE okV e with
  | false => simp only [Bool.false_eq_true, if_false]; exact print_bad e w hz hR
  | true =>
    simp only [if_true]
    obtain ⟨k, s, t, r, v⟩ := e
    rcases kind_cases hR with h | h | h
    · obtain rfl : k = 1 := h
      exact print_put s t r v w hz hv hR hW
    · obtain rfl : k = 2 := h
      exact print_del s t r v w hz hR hW
    · obtain rfl : k = 3 := h
      exact print_gone s t r v w hz hR hW
end Go.Proofs.YtnkmckdefiblhaaGreatDoor
namespace Go.Proofs.YtnkmckdefiblhaaGreatDoor
open Go.RowKit

/-- The library's bound that a search reads. -/
def MaxL (w : World) : Prop := 4 < w.heap.size ∧ ∃ m, w.cell? ⟨4, 0, none⟩ = some (.int .i64 m)
theorem MaxL_of {w w' : World} (h : MaxL w) (hh : ∀ k, k < w.heap.size → w'.heap[k]? = w.heap[k]?) (hs : w.heap.size ≤ w'.heap.size) : MaxL w' :=
  ⟨Nat.lt_of_lt_of_le h.1 hs, by obtain ⟨m, hm⟩ := h.2; exact ⟨m, by rw [cell_in] at hm ⊢; rw [hh _ h.1]; exact hm⟩⟩
theorem WordsV_dr {w : World} (h : WordsV w) : WordsV w.drew := WordsV_of h (fun _ _ => rfl) (Nat.le_refl _)
theorem WordsV_al {w : World} (h : WordsV w) (o : Obj) : WordsV (w.alloc o) := WordsV_of h (fun _ hk => heap_alloc_old _ _ hk) (by simp)
theorem MaxL_ext {w w' : World} (h : MaxL w) (hx : ∃ x, w' = ext w x) : MaxL w' := MaxL_of h (fun _ hk => (ext_iff.1 hx).block _ hk) (ext_iff.1 hx).size

theorem split_more (c : UInt8) : ∀ (k : Nat) (l : List UInt8) (j : Nat), l.length ≤ k → k ≤ j → Lib.splitK [c] 0 k l = Lib.splitK [c] 0 j l
  | k, l, j, hl, hj => by
    rcases blank_cases l c with h | ⟨a, b, h, rfl⟩
    · rw [split_whole _ _ _ h, split_whole _ _ _ h]
    · cases k with
      | zero => simp at hl
      | succ k =>
        cases j with
        | zero => omega
        | succ j =>
          rw [split_blank _ _ _ _ h, split_blank _ _ _ _ h]
          simp only [List.length_append, List.length_cons] at hl
          rw [split_more c k b j (by omega) (by omega)]
/-- The text's pieces. -/
def piecesB (s : ByteArray) : List ByteArray := Lib.splitB ⟨#[32]⟩ 0 (min 5 (s.size + 1) - 1) s
theorem piecesB_is (s : ByteArray) : (piecesB s).map txt = pieces (txt s) := by
  have hl : s.data.toList.length = s.size := by rw [Array.length_toList]; rfl
  unfold piecesB pieces
  have h := Lib.splitB_data ⟨#[32]⟩ 0 (min 5 (s.size + 1) - 1) s
  have e : (Lib.splitB ⟨#[32]⟩ 0 (min 5 (s.size + 1) - 1) s).map txt = Lib.splitK [32] 0 (min 5 (s.size + 1) - 1) (txt s) := h
  rw [e]
  by_cases h4 : 4 ≤ s.size
  · rw [show min 5 (s.size + 1) - 1 = 4 by omega]
  · exact split_more 32 _ _ _ (by show s.data.toList.length ≤ _; omega) (by omega)
theorem split_any (s : ByteArray) (w : World) (hs : s.size ≤ 1048576) (hM : MaxL w) :
    Calls Tryz.prog 118 #[.string s, .string ⟨#[32]⟩, .int .i64 5] w fun e w' =>
      e = .returned (.slice (some ⟨w.heap.size, 0, none⟩) (piecesB s).length (min 5 (s.size + 1))) ∧ w' = w.alloc (.cells (Lib.cellsOf (piecesB s) (min 5 (s.size + 1))) 9) := by
  obtain ⟨m, hm⟩ := hM.2
  exact Tryz.strings_SplitN s ⟨#[32]⟩ 5 m w (by omega) hm (by decide) (by omega) (by omega)
theorem cells_pieces {w : World} {b N : Nat} {ps : List ByteArray} {t : TypeId} {f : Nat × Nat} (h : w.heap[b]? = some (.cells (Lib.cellsOf ps N) t f)) (j : Nat) (hj : j < ps.length) :
    w.cell? ⟨b, j, none⟩ = some (.string ps[j]) := by
  rw [cell_in, h]
  have : (Lib.cellsOf ps N)[j]? = some (.string ps[j]) := by
    unfold Lib.cellsOf
    rw [List.getElem?_toArray, List.getElem?_append_left (by simpa using hj), List.getElem?_map, List.getElem?_eq_getElem hj]; rfl
  simp [cellIn, this]
/-- Which of the words it is. -/
theorem index_any (x : ByteArray) (w : World) (hW : WordsV w) :
    Calls Tryz.prog 119 #[.slice (some ⟨6, 0, none⟩) 4 4, .string x] w fun e w' => e = .returned (.int .i64 (Lib.idxOfS [wordT 0, wordT 1, wordT 2, wordT 3] x)) ∧ w' = w :=
  Tryz.slices_Index_string 6 0 4 4 [wordT 0, wordT 1, wordT 2, wordT 3] x w (Nat.le_refl _) (by decide) (fun j hj => by
    rw [Nat.zero_add, hW.2 j hj]
    match j, hj with
    | 0, _ => rfl
    | 1, _ => rfl
    | 2, _ => rfl
    | 3, _ => rfl)
theorem index_kind (x : ByteArray) : max (Lib.idxOfS [wordT 0, wordT 1, wordT 2, wordT 3] x) 0 = kindOf (txt x) := by
  have hne : ∀ l, (mkT l = x) = (txt x = l) := fun l => propext ⟨fun h => by rw [← h]; rfl, fun h => txt_inj h.symm⟩
  have e0 := hne []
  have e1 := hne [112, 117, 116]
  have e2 := hne [100, 101, 108]
  have e3 := hne [103, 111, 110, 101]
  have d : Lib.idxOfS [wordT 0, wordT 1, wordT 2, wordT 3] x = if mkT [] = x then 0 else if mkT [112, 117, 116] = x then 1 else if mkT [100, 101, 108] = x then 2 else if mkT [103, 111, 110, 101] = x then 3 else -1 := rfl
  rw [d]
  unfold kindOf
  simp only [e0, e1, e2, e3]
  generalize txt x = l
  by_cases h0 : l = []
  · subst h0; decide
  · rw [if_neg h0]
    by_cases h1 : l = [112, 117, 116]
    · subst h1; decide
    · rw [if_neg h1, if_neg h1]
      by_cases h2 : l = [100, 101, 108]
      · subst h2; decide
      · rw [if_neg h2, if_neg h2]
        by_cases h3 : l = [103, 111, 110, 101]
        · subst h3; decide
        · rw [if_neg h3, if_neg h3]; decide

theorem many_at0 (w : World) : (Instr.index 202 (.agg #[.int .i64 0, .int .i64 5, .int .i64 4, .int .i64 2]) (.int .i64 0)).run Tryz.prog w = .ok (.int .i64 0) w := by kernel_rfl
theorem many_at1 (w : World) : (Instr.index 202 (.agg #[.int .i64 0, .int .i64 5, .int .i64 4, .int .i64 2]) (.int .i64 1)).run Tryz.prog w = .ok (.int .i64 5) w := by kernel_rfl
theorem many_at2 (w : World) : (Instr.index 202 (.agg #[.int .i64 0, .int .i64 5, .int .i64 4, .int .i64 2]) (.int .i64 2)).run Tryz.prog w = .ok (.int .i64 4) w := by kernel_rfl
theorem many_at3 (w : World) : (Instr.index 202 (.agg #[.int .i64 0, .int .i64 5, .int .i64 4, .int .i64 2]) (.int .i64 3)).run Tryz.prog w = .ok (.int .i64 2) w := by kernel_rfl

theorem split_le (c : UInt8) : ∀ (k : Nat) (l : List UInt8), ∀ p ∈ Lib.splitK [c] 0 k l, p.length ≤ l.length
  | 0, l, p, hp => by simp only [Lib.splitK, List.mem_singleton] at hp; subst hp; exact Nat.le_refl _
  | k + 1, l, p, hp => by
    rcases blank_cases l c with h | ⟨a, b, h, rfl⟩
    · rw [split_whole _ _ _ h, List.mem_singleton] at hp; subst hp; exact Nat.le_refl _
    · rw [split_blank _ _ _ _ h, List.mem_cons] at hp
      simp only [List.length_append, List.length_cons]
      rcases hp with rfl | hp
      · omega
      · have := split_le c k b p hp; omega
theorem piecesB_le (s : ByteArray) : ∀ p ∈ piecesB s, p.size ≤ s.size := by
  intro p hp
  have hl : ∀ x : ByteArray, (txt x).length = x.size := fun x => by unfold txt; rw [Array.length_toList]; rfl
  have h1 : txt p ∈ (piecesB s).map txt := List.mem_map_of_mem hp
  rw [piecesB_is] at h1
  have := split_le 32 4 (txt s) (txt p) h1
  rw [hl, hl] at this; exact this
/-- Five cells are stored. -/
theorem set5 {w : World} {b : Nat} {a0 a1 a2 a3 a4 : Value} {t : TypeId} (h : w.heap[b]? = some (.cells #[a0, a1, a2, a3, a4] t (0, 0))) (v0 v1 v2 v3 v4 : Value) :
    (((((w.setCell ⟨b, 0, none⟩ v0).setCell ⟨b, 1, none⟩ v1).setCell ⟨b, 2, none⟩ v2).setCell ⟨b, 3, none⟩ v3).setCell ⟨b, 4, none⟩ v4).heap[b]? = some (.cells #[v0, v1, v2, v3, v4] t (0, 0)) ∧
    w.grownBy (((((w.setCell ⟨b, 0, none⟩ v0).setCell ⟨b, 1, none⟩ v1).setCell ⟨b, 2, none⟩ v2).setCell ⟨b, 3, none⟩ v3).setCell ⟨b, 4, none⟩ v4) (some b) :=
  ⟨heap_setCell (heap_setCell (heap_setCell (heap_setCell (heap_setCell h v0) v1) v2) v3) v4,
    (((((grown_setCell w b 0 v0).trans (grown_setCell _ b 1 v1)).trans (grown_setCell _ b 2 v2)).trans (grown_setCell _ b 3 v3)).trans (grown_setCell _ b 4 v4))⟩
/-- A struct result lies in a block. -/
theorem ret_cells {P : Program} {fn : Func} {R : Ending → World → Prop} {a : Act} {w : World} {p u : Tmp} {ty : TypeId} {b : Nat} {V : Array Value} {t : TypeId} {fr : Nat × Nat} {d : TypeDesc} {v1 : Value} (h : fn.results = #[.cell p ty, .tmp u]) (hp : a.tmps.getD p undef = .pointer (some ⟨b, 0, none⟩))
    (hb : w.heap[b]? = some (.cells V t fr)) (hu : P.underlying ty = some d) (hd : (match d with | .struct _ | .array _ _ => true | _ => false) = true) (hi : (P.info? ty).map (·.size) = some V.size) (hv : a.tmps.getD u undef = v1) (hdf : a.defers = [])
    (hR : R (.returned (.tuple #[.agg V, v1])) w) : bodyPost P fn R .ret a w := by
  refine bodyPost_ret (v := .tuple #[.agg V, v1]) ?_ hdf hR
  rw [results_cell_tmp h, hp, hv]
  have := run_loadVar_row (P := P) w b t ty V fr d hb hu hd hi
  simp only [asAddr, Sem.run_pure, Result.andThen_ok, this]
theorem piecesB_pos (s : ByteArray) : 0 < (piecesB s).length := by
  have h : (piecesB s).map txt ≠ [] := by rw [piecesB_is]; exact split_ne 32 4 (txt s)
  cases e : piecesB s with
  | nil => rw [e] at h; exact absurd rfl h
  | cons a l => simp
end Go.Proofs.YtnkmckdefiblhaaGreatDoor
