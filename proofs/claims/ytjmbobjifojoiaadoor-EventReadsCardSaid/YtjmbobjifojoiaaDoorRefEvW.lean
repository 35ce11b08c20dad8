/- oublietteref.Parse, its second region: whatever order. -/
import Derived.Test.YtjmbobjifojoiaaDoorProg
import Derived.Test.YtjmbobjifojoiaaDoorRefEvQ
import Derived.Test.YtjmbobjifojoiaaDoorInv
import Derived.Test.YtjmbobjifojoiaaDoorEvBack
namespace Go.Proofs.YtjmbobjifojoiaaDoor
open Go.RowKit

def frW (s : ByteArray) (b0 gb m n cap : Nat) (g : Nat → Value) : Act := { tmps := #[.string s, undef, .pointer (some ⟨b0, 0, none⟩), .int .i64 0, .slice (some ⟨gb, 0, none⟩) n cap, g 5, undef, undef, undef, .string s, .slice (some ⟨b0 + 1, 0, none⟩) m m, .slice (some ⟨b0 + 2, 0, none⟩) 4 4, .slice (some ⟨gb, 0, none⟩) n cap, g 13, g 14, g 15, g 16, g 17, g 18, g 19, g 20, g 21, g 22, undef, undef, undef, undef, undef, undef, undef, undef, undef, undef, undef, undef, undef, undef, undef, undef, undef, undef, undef, undef, undef, undef, undef, undef, undef, undef, undef, undef, undef, undef, undef, undef, undef, undef, undef, undef, undef, undef, undef, undef, undef, undef, undef, undef, undef, undef, undef, undef, undef, undef, undef, undef, undef, undef, undef], defers := [] }
def dstW (i : Nat) : Nat := ([13, 1001, 1002, 1003, 14, 15, 16, 17, 18, 19, 20, 21, 22, 5, 1014] : List Nat).getD i (2000 + i)
/-- What each lays. -/
def laysW (gb n cap : Nat) (p0 p1 : ByteArray) (j : Nat) (v : Value) (_ : World) : Prop :=
  match j with
  | 5 => v = .slice (some ⟨gb, 0, none⟩) n cap
  | 6 => v = .pointer (some ⟨gb, 0, none⟩)
  | 7 => v = .string p0
  | 8 => v = .int .i64 (kindOf (txt p0))
  | 9 => v = .slice (some ⟨gb, 0, none⟩) n cap
  | 10 => v = .pointer (some ⟨gb, 1, none⟩)
  | 11 => v = .string p1
  | 12 => v = .agg #[.int .i64 (kindOf (txt p0)), .string p1, .string ⟨#[]⟩, .string ⟨#[]⟩, .string ⟨#[]⟩]
  | _ => True
/-- What stands in memory. -/
def stateW (w0 : World) (p0 p1 : ByteArray) (L : Nat → Bool) (g : Nat → Value) (w : World) : Prop :=
  Below w0.heap.size w0 w ∧ ((L 1 = true ∨ L 2 = true ∨ L 3 = true ∨ L 4 = true) → L 0 = true) ∧ (L 4 = true → L 1 = true ∧ L 2 = true ∧ L 3 = true) ∧ (L 0 = true → MapOK L (g 13) w0.heap.size w) ∧ (L 4 = true → g 14 = g 13) ∧ (L 14 = true → L 13 = true) ∧
    (L 13 = true → ∃ p, g 5 = .pointer (some ⟨p, 0, none⟩) ∧ w0.heap.size ≤ p ∧ w.heap[p]? = some (.cells (if L 14 = true then #[.int .i64 (kindOf (txt p0)), .string p1, .string ⟨#[]⟩, .string ⟨#[]⟩, .string ⟨#[]⟩] else #[.int .i64 0, .string ⟨#[]⟩, .string ⟨#[]⟩, .string ⟨#[]⟩, .string ⟨#[]⟩]) 54 (0, 0)))

/-- A word of it. -/
def wordW (ps : List ByteArray) (i : Nat) : ByteArray := (ps ++ [(⟨#[]⟩ : ByteArray), ⟨#[]⟩, ⟨#[]⟩, ⟨#[]⟩]).getD i ⟨#[]⟩
theorem wordW_le (s : ByteArray) (i : Nat) : (wordW (allB s) i).size ≤ s.size := by
  unfold wordW
  rw [List.getD_eq_getElem?_getD]
  rcases Nat.lt_or_ge i ((allB s) ++ [(⟨#[]⟩ : ByteArray), ⟨#[]⟩, ⟨#[]⟩, ⟨#[]⟩]).length with h | h
  · rw [List.getElem?_eq_getElem h]
    have hm := List.getElem_mem h
    simp only [Option.getD_some]
    generalize ((allB s) ++ [(⟨#[]⟩ : ByteArray), ⟨#[]⟩, ⟨#[]⟩, ⟨#[]⟩])[i] = x at hm
    rw [List.mem_append] at hm
    rcases hm with hm | hm
    · have h1 : txt x ∈ (allB s).map txt := List.mem_map_of_mem hm
      rw [allB_is] at h1
      have := split_le 32 _ _ _ h1
      unfold txt at this
      rw [Array.length_toList, Array.length_toList] at this
      exact this
    · simp at hm
      subst hm
      exact Nat.zero_le _
  · rw [List.getElem?_eq_none h]; exact Nat.zero_le _
def headW (p1 p2 p3 : ByteArray) : ByteArray := ⟨#[112, 117, 116, 32]⟩ ++ p1 ++ ⟨#[32]⟩ ++ p2 ++ ⟨#[32]⟩ ++ p3 ++ ⟨#[32]⟩
/-- What is read, whether or not it is right. -/
def eventOf (s p0 p1 p2 p3 : ByteArray) : Ev :=
  if kindOf (txt p0) = 1 then ⟨1, p1, p2, p3, if Lib.hasPrefix (txt s) (txt (headW p1 p2 p3)) = true then s.extract (headW p1 p2 p3).size s.size else ⟨#[]⟩⟩
  else if kindOf (txt p0) = 2 then ⟨2, p1, p2, p3, ⟨#[]⟩⟩
  else if kindOf (txt p0) = 3 then ⟨3, p1, ⟨#[]⟩, ⟨#[]⟩, ⟨#[]⟩⟩ else ⟨0, p1, ⟨#[]⟩, ⟨#[]⟩, ⟨#[]⟩⟩
def eventW (s : ByteArray) : Ev := eventOf s (wordW (allB s) 0) (wordW (allB s) 1) (wordW (allB s) 2) (wordW (allB s) 3)
def answW (s : ByteArray) (e : Ev) : Value := if rightE okR e = true ∧ printL e = txt s then .tuple #[.agg (evV e), .int .i64 0] else .tuple #[.agg (evV zeroE), .int .i64 3]
theorem eventOf_0 {s p0 p1 p2 p3 : ByteArray} (h : kindOf (txt p0) = 0) : eventOf s p0 p1 p2 p3 = ⟨0, p1, ⟨#[]⟩, ⟨#[]⟩, ⟨#[]⟩⟩ := by simp [eventOf, h]
theorem eventOf_1 {s p0 p1 p2 p3 : ByteArray} (h : kindOf (txt p0) = 1) : eventOf s p0 p1 p2 p3 = ⟨1, p1, p2, p3, if Lib.hasPrefix (txt s) (txt (headW p1 p2 p3)) = true then s.extract (headW p1 p2 p3).size s.size else ⟨#[]⟩⟩ := by simp [eventOf, h]
theorem eventOf_2 {s p0 p1 p2 p3 : ByteArray} (h : kindOf (txt p0) = 2) : eventOf s p0 p1 p2 p3 = ⟨2, p1, p2, p3, ⟨#[]⟩⟩ := by simp [eventOf, h]
theorem eventOf_3 {s p0 p1 p2 p3 : ByteArray} (h : kindOf (txt p0) = 3) : eventOf s p0 p1 p2 p3 = ⟨3, p1, ⟨#[]⟩, ⟨#[]⟩, ⟨#[]⟩⟩ := by simp [eventOf, h]
theorem answ_bad {s : ByteArray} {e : Ev} (h : rightE okR e = false) : answW s e = .tuple #[.agg (evV zeroE), .int .i64 3] := by
  unfold answW; rw [if_neg (by rw [h]; simp)]
theorem answ_other {s T : ByteArray} {e : Ev} (hp : printL e = txt T) (h : (!(T.toList == s.toList)) = true) : answW s e = .tuple #[.agg (evV zeroE), .int .i64 3] := by
  unfold answW; rw [if_neg]
  rintro ⟨_, h2⟩
  rw [hp] at h2
  rw [txt_inj h2] at h
  simp at h
theorem answ_yes {s T : ByteArray} {e : Ev} (hr : rightE okR e = true) (hp : printL e = txt T) (h : (!(T.toList == s.toList)) = false) : answW s e = .tuple #[.agg (evV e), .int .i64 0] := by
  unfold answW; rw [if_pos]
  refine ⟨hr, ?_⟩
  rw [hp]
  have h2 : T.toList = s.toList := by simpa using h
  rw [ByteArray.toList_eq, ByteArray.toList_eq] at h2
  exact h2
theorem rprint_cases (e : Ev) (hz : e.subject.size ≤ 1048576 ∧ e.table.size ≤ 1048576 ∧ e.row.size ≤ 1048576 ∧ e.value.size ≤ 1048576) :
    ∃ (T : ByteArray) (c : Int), (∀ w, Calls Tryd.prog 47 #[.agg (evV e)] w fun r w' => r = .returned (.tuple #[.string T, .int .i64 c]) ∧ ∃ x, w' = ext w x) ∧
      ((c = 0 ∧ rightE okR e = true ∧ printL e = txt T) ∨ (c = 1 ∧ rightE okR e = false)) := by
  refine ⟨_, _, fun w => rprint_any e w hz, ?_⟩
  cases h : rightE okR e with
  | false => exact .inr ⟨by simp, rfl⟩
  | true => exact .inl ⟨by simp, rfl, by simp [txt]⟩
set_option maxRecDepth 100000 in
set_option maxHeartbeats 4000000 in
theorem rparse_walk (s : ByteArray) (w : World) (hs : s.size ≤ 1048576) (hM : MaxL w) :
    Calls Tryd.prog 49 #[.string s] w fun r w' => r = .returned (answW s (eventW s)) ∧ ∃ x, w' = ext w x := by
  have hwl := wordW_le s
  generalize hev : eventW s = E
  unfold eventW at hev
  have SP := fun w h => splitall_any s w hs h
  have hN := allB_small s
  have hp0 : 0 < (allB s).length := by rw [allB_len]; omega
  generalize allB s = ps at *
  have hq0 := Nat.le_trans (hwl 0) hs
  have hq1 := Nat.le_trans (hwl 1) hs
  have hq2 := Nat.le_trans (hwl 2) hs
  have hq3 := Nat.le_trans (hwl 3) hs
  clear hwl
  have HV := Lib.hid hev
  have M := Lib.hid hM
  clear hev
  clear hM
  go_enter Tryd.func49, Tryd.ntmps49
  go_wp2_with fail
  refine (SP _ (MaxL_ext M.out (ext_alloc _ (ext_refl w)))).mono ?_
  rintro _ w1 ⟨rfl, rfl⟩
  have HZ : Hid ((w.alloc (.cells #[.int .i64 0, .string ⟨#[]⟩, .string ⟨#[]⟩, .string ⟨#[]⟩, .string ⟨#[]⟩] 54)).heap[w.heap.size]? = some (.cells #[.int .i64 0, .string ⟨#[]⟩, .string ⟨#[]⟩, .string ⟨#[]⟩, .string ⟨#[]⟩] 54 (0, 0))) := Lib.hid (heap_alloc_at _ _)
  have BZ := Lib.hid ((Below.refl w.heap.size w).alloc (Nat.le_refl _) (.cells #[.int .i64 0, .string ⟨#[]⟩, .string ⟨#[]⟩, .string ⟨#[]⟩, .string ⟨#[]⟩] 54))
  have ez : (w.alloc (.cells #[.int .i64 0, .string ⟨#[]⟩, .string ⟨#[]⟩, .string ⟨#[]⟩, .string ⟨#[]⟩] 54)).heap.size = w.heap.size + 1 := by simp
  generalize w.alloc (.cells #[.int .i64 0, .string ⟨#[]⟩, .string ⟨#[]⟩, .string ⟨#[]⟩, .string ⟨#[]⟩] 54) = wz at HZ BZ ez ⊢
  rw [ez]
  have HO := Lib.hid (ownsT_row (base := w.heap.size + 1) (heap_alloc_at wz (.cells (ps.map Value.string).toArray 9)) (Nat.le_of_eq ez.symm) (by unfold maxLen; omega))
  rw [ez] at HO
  have HZ1 := Lib.hid ((heap_alloc_old wz (.cells (ps.map Value.string).toArray 9) (lt_of_heap HZ.out)).trans HZ.out)
  have B1 := Lib.hid (BZ.out.alloc BZ.out.size (.cells (ps.map Value.string).toArray 9))
  have e1 : (wz.alloc (.cells (ps.map Value.string).toArray 9)).heap.size = w.heap.size + 2 := by simp [ez]
  generalize wz.alloc (.cells (ps.map Value.string).toArray 9) = w1 at HO HZ1 B1 e1 ⊢
  clear HZ BZ ez
  go_wp2_with (at_builtin; go_must (refine append_txt4 (w.heap.size + 1) _ ps ⟨#[]⟩ ⟨#[]⟩ ⟨#[]⟩ ⟨#[]⟩ (.tmp 10) (.tmp 11) _ rfl rfl rfl (by rw [e1]; rfl) HO.out (by omega) (by rw [e1]; omega) ?_); intro v' w' hO hg)
  have HO2 := Lib.hid hO
  have HZ2 : Hid (w'.heap[w.heap.size]? = _) := Lib.hid ((hg.block w.heap.size (lt_of_heap HZ1.out) (by intro e; have := Option.some.inj e; simp at this)).trans HZ1.out)
  have B2 := Lib.hid (B1.out.grown hg B1.out.size (by rintro _ ⟨⟩; simp))
  have e2 := hg.size
  rw [e1] at e2
  clear hg HO HZ1 B1 e1 w1 SP M
  obtain ⟨gb, cap, rfl, hgb, hgl, hcell⟩ := ownsT_form HO2.out (by simp)
  have hN4 : 4 < (ps ++ [(⟨#[]⟩ : ByteArray), ⟨#[]⟩, ⟨#[]⟩, ⟨#[]⟩]).length := by simp; exact hp0
  have gg : ∀ i, i < 4 → w'.cell? ⟨gb, i, none⟩ = some (.string (wordW ps i)) := fun i hi => by
    rw [hcell i (by omega)]; unfold wordW; simp [show i < ps.length + 4 by simp at hN4; omega]
  have g0 := Lib.hid (gg 0 (by decide))
  have g1 := Lib.hid (gg 1 (by decide))
  have g2 := Lib.hid (gg 2 (by decide))
  have g3 := Lib.hid (gg 3 (by decide))
  have hn0 : (0 : Int) < ((ps ++ [(⟨#[]⟩ : ByteArray), ⟨#[]⟩, ⟨#[]⟩, ⟨#[]⟩]).length : Int) := by omega
  have hn1 : (1 : Int) < ((ps ++ [(⟨#[]⟩ : ByteArray), ⟨#[]⟩, ⟨#[]⟩, ⟨#[]⟩]).length : Int) := by omega
  have hn2 : (2 : Int) < ((ps ++ [(⟨#[]⟩ : ByteArray), ⟨#[]⟩, ⟨#[]⟩, ⟨#[]⟩]).length : Int) := by omega
  have hn3 : (3 : Int) < ((ps ++ [(⟨#[]⟩ : ByteArray), ⟨#[]⟩, ⟨#[]⟩, ⟨#[]⟩]).length : Int) := by omega
  clear hcell HO2 hO gg hN4 hN hp0
  generalize (ps ++ [(⟨#[]⟩ : ByteArray), ⟨#[]⟩, ⟨#[]⟩, ⟨#[]⟩]).length = n at *
  generalize ps.length = m
  have hz0 : (wordW ps 0).size ≤ maxLen := Nat.le_trans hq0 (by unfold maxLen; omega)
  generalize wordW ps 0 = p0 at *
  generalize wordW ps 1 = p1 at *
  generalize wordW ps 2 = p2 at *
  generalize wordW ps 3 = p3 at *
  refine wp_region_slots (frW s w.heap.size gb m n cap) dstW (fun _ => undef) (laysW gb n cap p0 p1) (stateW w' p0 p1) (fun _ _ => True) (by kernel_rfl) (by kernel_rfl) rfl (fun j v _ _ _ h => h) (by kernel_rfl) ?_ ?_ ?_
  · exact ⟨(Below.refl _ _).drew, by simp, by simp, by simp, by simp, by simp, by simp⟩
  · refine ⟨?_, ?_, ?_, ?_, ?_, ?_, ?_, ?_, ?_, ?_, ?_, ?_, ?_, ?_, ?_, trivial⟩
    all_goals (intro L g w1 hLi hdeps hR hC; refine ends_of fun Q hQ => ?_)
    · obtain ⟨hB, h1, h2, h3, h4, h6, h5⟩ := hC
      have hmm := @run_makeMap Tryd.prog
      unfold frW
      go_wp2_with fail
      have n1 : L 1 = false := by
        cases hl : L 1 with
        | false => rfl
        | true => exact absurd (h1 (.inl hl)) (by simp [hLi])
      have n2 : L 2 = false := by
        cases hl : L 2 with
        | false => rfl
        | true => exact absurd (h1 (.inr (.inl hl))) (by simp [hLi])
      have n3 : L 3 = false := by
        cases hl : L 3 with
        | false => rfl
        | true => exact absurd (h1 (.inr (.inr (.inl hl)))) (by simp [hLi])
      refine hQ.out _ _ ⟨.map (some w1.heap.size), rfl, trivial, trivial, hB.alloc hB.size _, fun _ => rfl, fun h => absurd (h1 (.inr (.inr (.inr h)))) (by simp [hLi]), fun _ => MapOK_same (MapOK_made ⟨n1, n2, n3⟩ hB.size) rfl rfl rfl, fun h => absurd (h1 (.inr (.inr (.inr h)))) (by simp [hLi]), h6, fun h => ?_⟩
      obtain ⟨p, e1, e2, e3⟩ := h5 h
      exact ⟨p, e1, e2, (heap_alloc_old _ _ (lt_of_heap e3)).trans e3⟩
    · obtain ⟨hB, h1, h2, h3, h4, h6, h5⟩ := hC
      have l0 : L 0 = true := hdeps ⟨0, .data⟩ (by simp) rfl
      obtain ⟨b, w2, hv, hbd, ⟨es, ck, hbl⟩, hrun, hmap, hg⟩ := MapOK_put (h3 l0) ⟨#[112, 117, 116]⟩ (by decide) 1 (by decide) (cnt_more rfl (.inl rfl) hLi) (val_put rfl).1 (val_put rfl).2
      refine wpList_insert rfl _ _ _ _ rfl hrun ?_
      refine hQ.out _ _ ⟨undef, rfl, trivial, trivial, hB.grown hg hB.size (by rintro _ ⟨⟩; exact hbd), fun _ => l0, fun h => absurd (h2 h).1 (by simp [hLi]), fun _ => hmap, h4, h6, fun h => ?_⟩
      obtain ⟨p, e1, e2, e3⟩ := h5 h
      exact ⟨p, e1, e2, (hg.block p (lt_of_heap e3) (by intro e; injection e with e; subst e; rw [hbl] at e3; cases e3)).trans e3⟩
    · obtain ⟨hB, h1, h2, h3, h4, h6, h5⟩ := hC
      have l0 : L 0 = true := hdeps ⟨0, .data⟩ (by simp) rfl
      obtain ⟨b, w2, hv, hbd, ⟨es, ck, hbl⟩, hrun, hmap, hg⟩ := MapOK_put (h3 l0) ⟨#[100, 101, 108]⟩ (by decide) 2 (by decide) (cnt_more rfl (.inr (.inl rfl)) hLi) (val_del rfl).1 (val_del rfl).2
      refine wpList_insert rfl _ _ _ _ rfl hrun ?_
      refine hQ.out _ _ ⟨undef, rfl, trivial, trivial, hB.grown hg hB.size (by rintro _ ⟨⟩; exact hbd), fun _ => l0, fun h => absurd (h2 h).2.1 (by simp [hLi]), fun _ => hmap, h4, h6, fun h => ?_⟩
      obtain ⟨p, e1, e2, e3⟩ := h5 h
      exact ⟨p, e1, e2, (hg.block p (lt_of_heap e3) (by intro e; injection e with e; subst e; rw [hbl] at e3; cases e3)).trans e3⟩
    · obtain ⟨hB, h1, h2, h3, h4, h6, h5⟩ := hC
      have l0 : L 0 = true := hdeps ⟨0, .data⟩ (by simp) rfl
      obtain ⟨b, w2, hv, hbd, ⟨es, ck, hbl⟩, hrun, hmap, hg⟩ := MapOK_put (h3 l0) ⟨#[103, 111, 110, 101]⟩ (by decide) 3 (by decide) (cnt_more rfl (.inr (.inr rfl)) hLi) (val_gone rfl).1 (val_gone rfl).2
      refine wpList_insert rfl _ _ _ _ rfl hrun ?_
      refine hQ.out _ _ ⟨undef, rfl, trivial, trivial, hB.grown hg hB.size (by rintro _ ⟨⟩; exact hbd), fun _ => l0, fun h => absurd (h2 h).2.2 (by simp [hLi]), fun _ => hmap, h4, h6, fun h => ?_⟩
      obtain ⟨p, e1, e2, e3⟩ := h5 h
      exact ⟨p, e1, e2, (hg.block p (lt_of_heap e3) (by intro e; injection e with e; subst e; rw [hbl] at e3; cases e3)).trans e3⟩
    · obtain ⟨hB, h1, h2, h3, h4, h6, h5⟩ := hC
      have l0 : L 0 = true := hdeps ⟨0, .data⟩ (by simp) rfl
      have l1 : L 1 = true := hdeps ⟨1, .data⟩ (by simp) rfl
      have l2 : L 2 = true := hdeps ⟨2, .data⟩ (by simp) rfl
      have l3 : L 3 = true := hdeps ⟨3, .data⟩ (by simp) rfl
      unfold frW
      go_wp2_with fail
      exact hQ.out _ _ ⟨g 13, rfl, trivial, trivial, hB, fun _ => l0, fun _ => ⟨l1, l2, l3⟩, fun h => MapOK_same (h3 h) rfl rfl rfl, fun _ => rfl, h6, h5⟩
    · obtain ⟨hB, h1, h2, h3, h4, h6, h5⟩ := hC
      unfold frW
      go_wp2_with fail
      exact hQ.out _ _ ⟨.slice (some ⟨gb, 0, none⟩) n cap, rfl, trivial, rfl, hB, h1, h2, fun h => MapOK_same (h3 h) rfl rfl rfl, h4, h6, h5⟩
    · obtain ⟨hB, h1, h2, h3, h4, h6, h5⟩ := hC
      have r5 : g 15 = .slice (some ⟨gb, 0, none⟩) n cap := hR 5 (hdeps ⟨5, .data⟩ (by simp) rfl)
      unfold frW
      go_wp2_with fail
      exact hQ.out _ _ ⟨.pointer (some ⟨gb, 0, none⟩), by rw [← upd1_id r5]; rfl, trivial, rfl, hB, h1, h2, fun h => MapOK_same (h3 h) rfl rfl rfl, h4, h6, h5⟩
    · obtain ⟨hB, h1, h2, h3, h4, h6, h5⟩ := hC
      have r6 : g 16 = .pointer (some ⟨gb, 0, none⟩) := hR 6 (hdeps ⟨6, .data⟩ (by simp) rfl)
      have c0 := cell_below hB hgl g0.out
      unfold frW
      go_wp2_with fail
      exact hQ.out _ _ ⟨.string p0, by rw [← upd1_id r6]; rfl, trivial, rfl, hB, h1, h2, fun h => MapOK_same (h3 h) rfl rfl rfl, h4, h6, h5⟩
    · obtain ⟨hB, h1, h2, h3, h4, h6, h5⟩ := hC
      have l4 : L 4 = true := hdeps ⟨4, .data⟩ (by simp) rfl
      have r7 : g 17 = .string p0 := hR 7 (hdeps ⟨7, .data⟩ (by simp) rfl)
      have r4 : g 14 = g 13 := h4 l4
      have hrun := MapOK_look (h3 (h1 (.inr (.inr (.inr l4))))) (h2 l4).1 (h2 l4).2.1 (h2 l4).2.2 p0 hz0
      rw [← r4, ← r7] at hrun
      refine wpList_look rfl _ _ _ rfl hrun ?_
      exact hQ.out _ _ ⟨.int .i64 (kindOf (txt p0)), rfl, trivial, rfl, hB, h1, h2, fun h => MapOK_same (h3 h) rfl rfl rfl, h4, h6, h5⟩
    · obtain ⟨hB, h1, h2, h3, h4, h6, h5⟩ := hC
      unfold frW
      go_wp2_with fail
      exact hQ.out _ _ ⟨.slice (some ⟨gb, 0, none⟩) n cap, rfl, trivial, rfl, hB, h1, h2, fun h => MapOK_same (h3 h) rfl rfl rfl, h4, h6, h5⟩
    · obtain ⟨hB, h1, h2, h3, h4, h6, h5⟩ := hC
      have r9 : g 19 = .slice (some ⟨gb, 0, none⟩) n cap := hR 9 (hdeps ⟨9, .data⟩ (by simp) rfl)
      unfold frW
      go_wp2_with fail
      exact hQ.out _ _ ⟨.pointer (some ⟨gb, 1, none⟩), by rw [← upd1_id r9]; rfl, trivial, rfl, hB, h1, h2, fun h => MapOK_same (h3 h) rfl rfl rfl, h4, h6, h5⟩
    · obtain ⟨hB, h1, h2, h3, h4, h6, h5⟩ := hC
      have r10 : g 20 = .pointer (some ⟨gb, 1, none⟩) := hR 10 (hdeps ⟨10, .data⟩ (by simp) rfl)
      have c1 := cell_below hB hgl g1.out
      unfold frW
      go_wp2_with fail
      exact hQ.out _ _ ⟨.string p1, by rw [← upd1_id r10]; rfl, trivial, rfl, hB, h1, h2, fun h => MapOK_same (h3 h) rfl rfl rfl, h4, h6, h5⟩
    · obtain ⟨hB, h1, h2, h3, h4, h6, h5⟩ := hC
      have r8 : g 18 = .int .i64 (kindOf (txt p0)) := hR 8 (hdeps ⟨8, .data⟩ (by simp) rfl)
      have r11 : g 21 = .string p1 := hR 11 (hdeps ⟨11, .data⟩ (by simp) rfl)
      unfold frW
      go_wp2_with fail
      exact hQ.out _ _ ⟨.agg #[.int .i64 (kindOf (txt p0)), .string p1, .string ⟨#[]⟩, .string ⟨#[]⟩, .string ⟨#[]⟩], by rw [← upd1_id r8, ← upd1_id r11]; rfl, trivial, rfl, hB, h1, h2, fun h => MapOK_same (h3 h) rfl rfl rfl, h4, h6, h5⟩
    · obtain ⟨hB, h1, h2, h3, h4, h6, h5⟩ := hC
      unfold frW
      go_wp2_with fail
      exact hQ.out _ _ ⟨.pointer (some ⟨w1.heap.size, 0, none⟩), rfl, trivial, trivial, hB.alloc hB.size _, h1, h2, fun h => MapOK_same (MapOK_kept (h3 h) (World.grownBy_alloc w1 _ none)) rfl rfl rfl, h4, fun _ => rfl, fun _ => ⟨w1.heap.size, rfl, hB.size, by show _ = some (Obj.cells (if L 14 = true then _ else _) _ _); rw [if_neg (fun h => absurd (h6 h) (by simp [hLi]))]; exact heap_alloc_at w1 _⟩⟩
    · obtain ⟨hB, h1, h2, h3, h4, h6, h5⟩ := hC
      have l13 : L 13 = true := hdeps ⟨13, .data⟩ (by simp) rfl
      have r12 : g 22 = .agg #[.int .i64 (kindOf (txt p0)), .string p1, .string ⟨#[]⟩, .string ⟨#[]⟩, .string ⟨#[]⟩] := hR 12 (hdeps ⟨12, .data⟩ (by simp) rfl)
      obtain ⟨p, r13, e2, e3⟩ := h5 l13
      rw [if_neg (by simp [hLi])] at e3
      have e4 := Lib.hid e3
      obtain ⟨f0, f1, f2, f3, f4⟩ := ev_cells e3
      have ff := free_of_heap e3
      clear e3
      unfold frW
      go_wp2_with fail
      obtain ⟨S5, U5⟩ := set5 e4.out (.int .i64 (kindOf (txt p0))) (.string p1) (.string ⟨#[]⟩) (.string ⟨#[]⟩) (.string ⟨#[]⟩)
      exact hQ.out _ _ ⟨undef, by rw [← upd1_id r12, ← upd1_id r13]; rfl, trivial, trivial, hB.grown U5 hB.size (by rintro _ ⟨⟩; exact e2), h1, h2, fun h => MapOK_same (MapOK_far (h3 h) e4.out U5) rfl rfl rfl, h4, fun _ => l13, fun _ => ⟨p, r13, e2, S5⟩⟩
  · intro L g w3 hL hR hC
    obtain ⟨hB, _, _, _, _, _, h5⟩ := hC
    obtain ⟨p, r5, hp, hE⟩ := h5 (hL 13 (by simp))
    rw [if_pos (hL 14 (by simp))] at hE
    unfold frW
    rw [r5]
    have HE := Lib.hid hE
    have HZ3 := Lib.hid ((hB.block _ (lt_of_heap HZ2.out)).trans HZ2.out)
    have B3 := Lib.hid (B2.out.trans (hB.mono B2.out.size))
    have k2 := Lib.hid (cell_below hB hgl g2.out)
    have k3 := Lib.hid (cell_below hB hgl g3.out)
    have hpw : w.heap.size + 2 ≤ p := Nat.le_trans e2 hp
    have hgp : gb < p := Nat.lt_of_lt_of_le hgl hp
    generalize g 13 = v13
    generalize g 14 = v14
    generalize g 15 = v15
    generalize g 16 = v16
    generalize g 17 = v17
    generalize g 18 = v18
    generalize g 19 = v19
    generalize g 20 = v20
    generalize g 21 = v21
    generalize g 22 = v22
    clear hE hB h5 hL hR HZ2 B2 g0 g1 g2 g3 hn0 hn1 r5 hp hgl e2
    rcases kindOf_cases (txt p0) with hk | hk | hk | hk <;> rw [hk] at HE
    · have hEv := HV.out.symm.trans (eventOf_0 hk)
      obtain ⟨T, c, PT, hTc⟩ := rprint_cases ⟨0, p1, ⟨#[]⟩, ⟨#[]⟩, ⟨#[]⟩⟩ ⟨hq1, Nat.zero_le _, Nat.zero_le _, Nat.zero_le _⟩
      unfold evV at PT
      obtain ⟨f0, f1, f2, f3, f4⟩ := ev_cells HE.out
      go_wp2_with fail
      refine (PT _).mono ?_
      rintro _ w6 ⟨rfl, hx⟩
      have HE6 := Lib.hid (((ext_iff.1 hx).block _ (lt_of_heap HE.out)).trans HE.out)
      have HZ6 := Lib.hid (((ext_iff.1 hx).block _ (lt_of_heap HZ3.out)).trans HZ3.out)
      have B6 := Lib.hid (B3.out.trans ((ext_iff.1 hx).mono B3.out.size))
      clear hx HE HZ3 B3 f0 f1 f2 f3 f4 PT k2 k3
      obtain ⟨f0, f1, f2, f3, f4⟩ := ev_cells HE6.out
      have fz := free_of_heap HZ6.out
      obtain ⟨z0, z1, z2, z3, z4⟩ := ev_cells HZ6.out
      rcases hTc with ⟨rfl, hr, hp⟩ | ⟨rfl, hr⟩
      · cases hq : (!(T.toList == s.toList)) with
        | true =>
          go_wp2_with fail
          obtain ⟨S5, U5⟩ := set5 HZ6.out (.int .i64 0) (.string ⟨#[]⟩) (.string ⟨#[]⟩) (.string ⟨#[]⟩) (.string ⟨#[]⟩)
          have S5 := Lib.hid S5
          have B5 := Lib.hid (B6.out.grown U5 B6.out.size (by rintro _ ⟨⟩; exact Nat.le_refl _))
          clear U5
          generalize (((((w6.setCell ⟨w.heap.size, 0, none⟩ (.int .i64 0)).setCell ⟨w.heap.size, 1, none⟩ (.string ⟨#[]⟩)).setCell ⟨w.heap.size, 2, none⟩ (.string ⟨#[]⟩)).setCell ⟨w.heap.size, 3, none⟩ (.string ⟨#[]⟩)).setCell ⟨w.heap.size, 4, none⟩ (.string ⟨#[]⟩)) = w5 at S5 B5 ⊢
          exact ret_cells rfl rfl S5.out Tryd.underlying54 rfl (by kernel_rfl) rfl rfl ⟨by rw [hEv, answ_other hp hq]; rfl, ext_of B5.out⟩
        | false =>
          go_wp2_with fail
          obtain ⟨S5, U5⟩ := set5 HZ6.out (.int .i64 0) (.string p1) (.string ⟨#[]⟩) (.string ⟨#[]⟩) (.string ⟨#[]⟩)
          have S5 := Lib.hid S5
          have B5 := Lib.hid (B6.out.grown U5 B6.out.size (by rintro _ ⟨⟩; exact Nat.le_refl _))
          clear U5
          generalize (((((w6.setCell ⟨w.heap.size, 0, none⟩ (.int .i64 0)).setCell ⟨w.heap.size, 1, none⟩ (.string p1)).setCell ⟨w.heap.size, 2, none⟩ (.string ⟨#[]⟩)).setCell ⟨w.heap.size, 3, none⟩ (.string ⟨#[]⟩)).setCell ⟨w.heap.size, 4, none⟩ (.string ⟨#[]⟩)) = w5 at S5 B5 ⊢
          exact ret_cells rfl rfl S5.out Tryd.underlying54 rfl (by kernel_rfl) rfl rfl ⟨by rw [hEv, answ_yes hr hp hq]; rfl, ext_of B5.out⟩
      · skip
        go_wp2_with fail
        obtain ⟨S5, U5⟩ := set5 HZ6.out (.int .i64 0) (.string ⟨#[]⟩) (.string ⟨#[]⟩) (.string ⟨#[]⟩) (.string ⟨#[]⟩)
        have S5 := Lib.hid S5
        have B5 := Lib.hid (B6.out.grown U5 B6.out.size (by rintro _ ⟨⟩; exact Nat.le_refl _))
        clear U5
        generalize (((((w6.setCell ⟨w.heap.size, 0, none⟩ (.int .i64 0)).setCell ⟨w.heap.size, 1, none⟩ (.string ⟨#[]⟩)).setCell ⟨w.heap.size, 2, none⟩ (.string ⟨#[]⟩)).setCell ⟨w.heap.size, 3, none⟩ (.string ⟨#[]⟩)).setCell ⟨w.heap.size, 4, none⟩ (.string ⟨#[]⟩)) = w5 at S5 B5 ⊢
        exact ret_cells rfl rfl S5.out Tryd.underlying54 rfl (by kernel_rfl) rfl rfl ⟨by rw [hEv, answ_bad hr]; rfl, ext_of B5.out⟩
    · have hEv := HV.out.symm.trans (eventOf_1 hk)
      have HP := fun w => Tryd.strings_HasPrefix s (headW p1 p2 p3) w
      change ∀ w, Calls _ _ _ _ fun e w' => e = .returned (.bool (Lib.hasPrefix (txt s) (txt (headW p1 p2 p3)))) ∧ _ at HP
      have hps : Lib.hasPrefix (txt s) (txt (headW p1 p2 p3)) = true → (headW p1 p2 p3).size ≤ s.size := fun h => by
        have := (List.isPrefixOf_iff_prefix.1 h).length_le
        unfold txt at this
        rw [Array.length_toList, Array.length_toList] at this
        exact this
      unfold headW at HP hEv hps
      generalize Lib.hasPrefix (txt s) (txt _) = pre at HP hEv hps
      obtain ⟨f0, f1, f2, f3, f4⟩ := ev_cells HE.out
      have ff := free_of_heap HE.out
      go_wp2_with fail
      have hk2 := k2.out
      have hgne : ¬ gb = p := by omega
      have hgne2 : ¬ p = gb := by omega
      have hk3 := k3.out
      go_region_held3 (fun w' => w'.cell? ⟨gb, 2, none⟩ = some (.string p2) ∧ w'.cell? ⟨gb, 3, none⟩ = some (.string p3))
        (simp [*, World.cell?_setCell_far]) (fail)
      have HE4 : Hid (((w3.setCell ⟨p, 2, none⟩ (.string p2)).setCell ⟨p, 3, none⟩ (.string p3)).drew.heap[p]? = some (.cells #[.int .i64 1, .string p1, .string p2, .string p3, .string ⟨#[]⟩] 54 (0, 0))) := Lib.hid (heap_setCell (heap_setCell HE.out _) _)
      have U4 : w3.grownBy ((w3.setCell ⟨p, 2, none⟩ (.string p2)).setCell ⟨p, 3, none⟩ (.string p3)).drew (some p) := ((grown_setCell w3 p 2 (.string p2)).trans (grown_setCell _ p 3 (.string p3))).trans ⟨rfl, rfl, rfl, Nat.le_refl _, fun _ _ _ => rfl⟩
      have HZ4 := Lib.hid ((U4.block w.heap.size (lt_of_heap HZ3.out) (by intro e; injection e with e; omega)).trans HZ3.out)
      have B4 := Lib.hid (B3.out.grown U4 B3.out.size (by rintro _ ⟨⟩; omega))
      generalize ((w3.setCell ⟨p, 2, none⟩ (.string p2)).setCell ⟨p, 3, none⟩ (.string p3)).drew = w4 at HE4 HZ4 B4 ⊢
      clear HE HZ3 B3 f0 f1 f2 f3 f4 ff U4 hk2 hk3 k2 k3 hgne hgne2
      obtain ⟨f0, f1, f2, f3, f4⟩ := ev_cells HE4.out
      have ff := free_of_heap HE4.out
      go_wp2_with fail
      refine (HP _).mono ?_
      rintro _ w5 ⟨rfl, rfl⟩
      cases pre with
      | false =>
        simp only [Bool.false_eq_true, if_false] at hEv
        obtain ⟨T, c, PT, hTc⟩ := rprint_cases ⟨1, p1, p2, p3, ⟨#[]⟩⟩ ⟨hq1, hq2, hq3, Nat.zero_le _⟩
        unfold evV at PT
        go_wp2_with fail
        refine (PT _).mono ?_
        rintro _ w6 ⟨rfl, hx⟩
        have HE6 := Lib.hid (((ext_iff.1 hx).block _ (lt_of_heap HE4.out)).trans HE4.out)
        have HZ6 := Lib.hid (((ext_iff.1 hx).block _ (lt_of_heap HZ4.out)).trans HZ4.out)
        have B6 := Lib.hid (B4.out.trans ((ext_iff.1 hx).mono B4.out.size))
        clear hx HE4 HZ4 B4 f0 f1 f2 f3 f4 PT ff HP hps
        obtain ⟨f0, f1, f2, f3, f4⟩ := ev_cells HE6.out
        have fz := free_of_heap HZ6.out
        obtain ⟨z0, z1, z2, z3, z4⟩ := ev_cells HZ6.out
        rcases hTc with ⟨rfl, hr, hp⟩ | ⟨rfl, hr⟩
        · cases hq : (!(T.toList == s.toList)) with
          | true =>
            go_wp2_with fail
            obtain ⟨S5, U5⟩ := set5 HZ6.out (.int .i64 0) (.string ⟨#[]⟩) (.string ⟨#[]⟩) (.string ⟨#[]⟩) (.string ⟨#[]⟩)
            have S5 := Lib.hid S5
            have B5 := Lib.hid (B6.out.grown U5 B6.out.size (by rintro _ ⟨⟩; exact Nat.le_refl _))
            clear U5
            generalize (((((w6.setCell ⟨w.heap.size, 0, none⟩ (.int .i64 0)).setCell ⟨w.heap.size, 1, none⟩ (.string ⟨#[]⟩)).setCell ⟨w.heap.size, 2, none⟩ (.string ⟨#[]⟩)).setCell ⟨w.heap.size, 3, none⟩ (.string ⟨#[]⟩)).setCell ⟨w.heap.size, 4, none⟩ (.string ⟨#[]⟩)) = w5 at S5 B5 ⊢
            exact ret_cells rfl rfl S5.out Tryd.underlying54 rfl (by kernel_rfl) rfl rfl ⟨by rw [hEv, answ_other hp hq]; rfl, ext_of B5.out⟩
          | false =>
            go_wp2_with fail
            obtain ⟨S5, U5⟩ := set5 HZ6.out (.int .i64 1) (.string p1) (.string p2) (.string p3) (.string ⟨#[]⟩)
            have S5 := Lib.hid S5
            have B5 := Lib.hid (B6.out.grown U5 B6.out.size (by rintro _ ⟨⟩; exact Nat.le_refl _))
            clear U5
            generalize (((((w6.setCell ⟨w.heap.size, 0, none⟩ (.int .i64 1)).setCell ⟨w.heap.size, 1, none⟩ (.string p1)).setCell ⟨w.heap.size, 2, none⟩ (.string p2)).setCell ⟨w.heap.size, 3, none⟩ (.string p3)).setCell ⟨w.heap.size, 4, none⟩ (.string ⟨#[]⟩)) = w5 at S5 B5 ⊢
            exact ret_cells rfl rfl S5.out Tryd.underlying54 rfl (by kernel_rfl) rfl rfl ⟨by rw [hEv, answ_yes hr hp hq]; rfl, ext_of B5.out⟩
        · skip
          go_wp2_with fail
          obtain ⟨S5, U5⟩ := set5 HZ6.out (.int .i64 0) (.string ⟨#[]⟩) (.string ⟨#[]⟩) (.string ⟨#[]⟩) (.string ⟨#[]⟩)
          have S5 := Lib.hid S5
          have B5 := Lib.hid (B6.out.grown U5 B6.out.size (by rintro _ ⟨⟩; exact Nat.le_refl _))
          clear U5
          generalize (((((w6.setCell ⟨w.heap.size, 0, none⟩ (.int .i64 0)).setCell ⟨w.heap.size, 1, none⟩ (.string ⟨#[]⟩)).setCell ⟨w.heap.size, 2, none⟩ (.string ⟨#[]⟩)).setCell ⟨w.heap.size, 3, none⟩ (.string ⟨#[]⟩)).setCell ⟨w.heap.size, 4, none⟩ (.string ⟨#[]⟩)) = w5 at S5 B5 ⊢
          exact ret_cells rfl rfl S5.out Tryd.underlying54 rfl (by kernel_rfl) rfl rfl ⟨by rw [hEv, answ_bad hr]; rfl, ext_of B5.out⟩
      | true =>
        simp only [if_true] at hEv
        have hps := hps rfl
        generalize ((⟨#[112, 117, 116, 32]⟩ : ByteArray) ++ p1 ++ ⟨#[32]⟩ ++ p2 ++ ⟨#[32]⟩ ++ p3 ++ ⟨#[32]⟩) = H at hEv hps ⊢
        have hcut : (H.size : Int) ≤ (s.size : Int) := by omega
        go_wp2_with fail
        have hX : (s.extract H.size s.size).size ≤ 1048576 := by simp [ByteArray.size_extract]; omega
        generalize s.extract H.size s.size = X at hEv hX ⊢
        obtain ⟨T, c, PT, hTc⟩ := rprint_cases ⟨1, p1, p2, p3, X⟩ ⟨hq1, hq2, hq3, hX⟩
        unfold evV at PT
        have HE7 : Hid ((w5.setCell ⟨p, 4, none⟩ (.string X)).heap[p]? = some (.cells #[.int .i64 1, .string p1, .string p2, .string p3, .string X] 54 (0, 0))) := Lib.hid (heap_setCell HE4.out _)
        have U7 := grown_setCell w5 p 4 (.string X)
        have HZ7 := Lib.hid ((U7.block w.heap.size (lt_of_heap HZ4.out) (by intro e; injection e with e; omega)).trans HZ4.out)
        have B7 := Lib.hid (B4.out.grown U7 B4.out.size (by rintro _ ⟨⟩; omega))
        generalize w5.setCell ⟨p, 4, none⟩ (.string X) = w7 at HE7 HZ7 B7 ⊢
        clear HE4 HZ4 B4 U7 hcut
        refine (PT _).mono ?_
        rintro _ w6 ⟨rfl, hx⟩
        have HE6 := Lib.hid (((ext_iff.1 hx).block _ (lt_of_heap HE7.out)).trans HE7.out)
        have HZ6 := Lib.hid (((ext_iff.1 hx).block _ (lt_of_heap HZ7.out)).trans HZ7.out)
        have B6 := Lib.hid (B7.out.trans ((ext_iff.1 hx).mono B7.out.size))
        clear hx HE7 HZ7 B7 f0 f1 f2 f3 f4 PT ff HP hps
        obtain ⟨f0, f1, f2, f3, f4⟩ := ev_cells HE6.out
        have fz := free_of_heap HZ6.out
        obtain ⟨z0, z1, z2, z3, z4⟩ := ev_cells HZ6.out
        rcases hTc with ⟨rfl, hr, hp⟩ | ⟨rfl, hr⟩
        · cases hq : (!(T.toList == s.toList)) with
          | true =>
            go_wp2_with fail
            obtain ⟨S5, U5⟩ := set5 HZ6.out (.int .i64 0) (.string ⟨#[]⟩) (.string ⟨#[]⟩) (.string ⟨#[]⟩) (.string ⟨#[]⟩)
            have S5 := Lib.hid S5
            have B5 := Lib.hid (B6.out.grown U5 B6.out.size (by rintro _ ⟨⟩; exact Nat.le_refl _))
            clear U5
            generalize (((((w6.setCell ⟨w.heap.size, 0, none⟩ (.int .i64 0)).setCell ⟨w.heap.size, 1, none⟩ (.string ⟨#[]⟩)).setCell ⟨w.heap.size, 2, none⟩ (.string ⟨#[]⟩)).setCell ⟨w.heap.size, 3, none⟩ (.string ⟨#[]⟩)).setCell ⟨w.heap.size, 4, none⟩ (.string ⟨#[]⟩)) = w5 at S5 B5 ⊢
            exact ret_cells rfl rfl S5.out Tryd.underlying54 rfl (by kernel_rfl) rfl rfl ⟨by rw [hEv, answ_other hp hq]; rfl, ext_of B5.out⟩
          | false =>
            go_wp2_with fail
            obtain ⟨S5, U5⟩ := set5 HZ6.out (.int .i64 1) (.string p1) (.string p2) (.string p3) (.string X)
            have S5 := Lib.hid S5
            have B5 := Lib.hid (B6.out.grown U5 B6.out.size (by rintro _ ⟨⟩; exact Nat.le_refl _))
            clear U5
            generalize (((((w6.setCell ⟨w.heap.size, 0, none⟩ (.int .i64 1)).setCell ⟨w.heap.size, 1, none⟩ (.string p1)).setCell ⟨w.heap.size, 2, none⟩ (.string p2)).setCell ⟨w.heap.size, 3, none⟩ (.string p3)).setCell ⟨w.heap.size, 4, none⟩ (.string X)) = w5 at S5 B5 ⊢
            exact ret_cells rfl rfl S5.out Tryd.underlying54 rfl (by kernel_rfl) rfl rfl ⟨by rw [hEv, answ_yes hr hp hq]; rfl, ext_of B5.out⟩
        · skip
          go_wp2_with fail
          obtain ⟨S5, U5⟩ := set5 HZ6.out (.int .i64 0) (.string ⟨#[]⟩) (.string ⟨#[]⟩) (.string ⟨#[]⟩) (.string ⟨#[]⟩)
          have S5 := Lib.hid S5
          have B5 := Lib.hid (B6.out.grown U5 B6.out.size (by rintro _ ⟨⟩; exact Nat.le_refl _))
          clear U5
          generalize (((((w6.setCell ⟨w.heap.size, 0, none⟩ (.int .i64 0)).setCell ⟨w.heap.size, 1, none⟩ (.string ⟨#[]⟩)).setCell ⟨w.heap.size, 2, none⟩ (.string ⟨#[]⟩)).setCell ⟨w.heap.size, 3, none⟩ (.string ⟨#[]⟩)).setCell ⟨w.heap.size, 4, none⟩ (.string ⟨#[]⟩)) = w5 at S5 B5 ⊢
          exact ret_cells rfl rfl S5.out Tryd.underlying54 rfl (by kernel_rfl) rfl rfl ⟨by rw [hEv, answ_bad hr]; rfl, ext_of B5.out⟩
    · have hEv := HV.out.symm.trans (eventOf_2 hk)
      obtain ⟨T, c, PT, hTc⟩ := rprint_cases ⟨2, p1, p2, p3, ⟨#[]⟩⟩ ⟨hq1, hq2, hq3, Nat.zero_le _⟩
      unfold evV at PT
      obtain ⟨f0, f1, f2, f3, f4⟩ := ev_cells HE.out
      have ff := free_of_heap HE.out
      go_wp2_with fail
      have hk2 := k2.out
      have hgne : ¬ gb = p := by omega
      have hgne2 : ¬ p = gb := by omega
      have hk3 := k3.out
      go_region_held3 (fun w' => w'.cell? ⟨gb, 2, none⟩ = some (.string p2) ∧ w'.cell? ⟨gb, 3, none⟩ = some (.string p3))
        (simp [*, World.cell?_setCell_far]) (fail)
      have HE4 : Hid (((w3.setCell ⟨p, 2, none⟩ (.string p2)).setCell ⟨p, 3, none⟩ (.string p3)).drew.heap[p]? = some (.cells #[.int .i64 2, .string p1, .string p2, .string p3, .string ⟨#[]⟩] 54 (0, 0))) := Lib.hid (heap_setCell (heap_setCell HE.out _) _)
      have U4 : w3.grownBy ((w3.setCell ⟨p, 2, none⟩ (.string p2)).setCell ⟨p, 3, none⟩ (.string p3)).drew (some p) := ((grown_setCell w3 p 2 (.string p2)).trans (grown_setCell _ p 3 (.string p3))).trans ⟨rfl, rfl, rfl, Nat.le_refl _, fun _ _ _ => rfl⟩
      have HZ4 := Lib.hid ((U4.block w.heap.size (lt_of_heap HZ3.out) (by intro e; injection e with e; omega)).trans HZ3.out)
      have B4 := Lib.hid (B3.out.grown U4 B3.out.size (by rintro _ ⟨⟩; omega))
      generalize ((w3.setCell ⟨p, 2, none⟩ (.string p2)).setCell ⟨p, 3, none⟩ (.string p3)).drew = w4 at HE4 HZ4 B4 ⊢
      clear HE HZ3 B3 f0 f1 f2 f3 f4 ff U4 hk2 hk3 k2 k3 hgne hgne2
      obtain ⟨f0, f1, f2, f3, f4⟩ := ev_cells HE4.out
      have ff := free_of_heap HE4.out
      go_wp2_with fail
      refine (PT _).mono ?_
      rintro _ w6 ⟨rfl, hx⟩
      have HE6 := Lib.hid (((ext_iff.1 hx).block _ (lt_of_heap HE4.out)).trans HE4.out)
      have HZ6 := Lib.hid (((ext_iff.1 hx).block _ (lt_of_heap HZ4.out)).trans HZ4.out)
      have B6 := Lib.hid (B4.out.trans ((ext_iff.1 hx).mono B4.out.size))
      clear hx HE4 HZ4 B4 f0 f1 f2 f3 f4 PT ff
      obtain ⟨f0, f1, f2, f3, f4⟩ := ev_cells HE6.out
      have fz := free_of_heap HZ6.out
      obtain ⟨z0, z1, z2, z3, z4⟩ := ev_cells HZ6.out
      rcases hTc with ⟨rfl, hr, hp⟩ | ⟨rfl, hr⟩
      · cases hq : (!(T.toList == s.toList)) with
        | true =>
          go_wp2_with fail
          obtain ⟨S5, U5⟩ := set5 HZ6.out (.int .i64 0) (.string ⟨#[]⟩) (.string ⟨#[]⟩) (.string ⟨#[]⟩) (.string ⟨#[]⟩)
          have S5 := Lib.hid S5
          have B5 := Lib.hid (B6.out.grown U5 B6.out.size (by rintro _ ⟨⟩; exact Nat.le_refl _))
          clear U5
          generalize (((((w6.setCell ⟨w.heap.size, 0, none⟩ (.int .i64 0)).setCell ⟨w.heap.size, 1, none⟩ (.string ⟨#[]⟩)).setCell ⟨w.heap.size, 2, none⟩ (.string ⟨#[]⟩)).setCell ⟨w.heap.size, 3, none⟩ (.string ⟨#[]⟩)).setCell ⟨w.heap.size, 4, none⟩ (.string ⟨#[]⟩)) = w5 at S5 B5 ⊢
          exact ret_cells rfl rfl S5.out Tryd.underlying54 rfl (by kernel_rfl) rfl rfl ⟨by rw [hEv, answ_other hp hq]; rfl, ext_of B5.out⟩
        | false =>
          go_wp2_with fail
          obtain ⟨S5, U5⟩ := set5 HZ6.out (.int .i64 2) (.string p1) (.string p2) (.string p3) (.string ⟨#[]⟩)
          have S5 := Lib.hid S5
          have B5 := Lib.hid (B6.out.grown U5 B6.out.size (by rintro _ ⟨⟩; exact Nat.le_refl _))
          clear U5
          generalize (((((w6.setCell ⟨w.heap.size, 0, none⟩ (.int .i64 2)).setCell ⟨w.heap.size, 1, none⟩ (.string p1)).setCell ⟨w.heap.size, 2, none⟩ (.string p2)).setCell ⟨w.heap.size, 3, none⟩ (.string p3)).setCell ⟨w.heap.size, 4, none⟩ (.string ⟨#[]⟩)) = w5 at S5 B5 ⊢
          exact ret_cells rfl rfl S5.out Tryd.underlying54 rfl (by kernel_rfl) rfl rfl ⟨by rw [hEv, answ_yes hr hp hq]; rfl, ext_of B5.out⟩
      · skip
        go_wp2_with fail
        obtain ⟨S5, U5⟩ := set5 HZ6.out (.int .i64 0) (.string ⟨#[]⟩) (.string ⟨#[]⟩) (.string ⟨#[]⟩) (.string ⟨#[]⟩)
        have S5 := Lib.hid S5
        have B5 := Lib.hid (B6.out.grown U5 B6.out.size (by rintro _ ⟨⟩; exact Nat.le_refl _))
        clear U5
        generalize (((((w6.setCell ⟨w.heap.size, 0, none⟩ (.int .i64 0)).setCell ⟨w.heap.size, 1, none⟩ (.string ⟨#[]⟩)).setCell ⟨w.heap.size, 2, none⟩ (.string ⟨#[]⟩)).setCell ⟨w.heap.size, 3, none⟩ (.string ⟨#[]⟩)).setCell ⟨w.heap.size, 4, none⟩ (.string ⟨#[]⟩)) = w5 at S5 B5 ⊢
        exact ret_cells rfl rfl S5.out Tryd.underlying54 rfl (by kernel_rfl) rfl rfl ⟨by rw [hEv, answ_bad hr]; rfl, ext_of B5.out⟩
    · have hEv := HV.out.symm.trans (eventOf_3 hk)
      obtain ⟨T, c, PT, hTc⟩ := rprint_cases ⟨3, p1, ⟨#[]⟩, ⟨#[]⟩, ⟨#[]⟩⟩ ⟨hq1, Nat.zero_le _, Nat.zero_le _, Nat.zero_le _⟩
      unfold evV at PT
      obtain ⟨f0, f1, f2, f3, f4⟩ := ev_cells HE.out
      go_wp2_with fail
      refine (PT _).mono ?_
      rintro _ w6 ⟨rfl, hx⟩
      have HE6 := Lib.hid (((ext_iff.1 hx).block _ (lt_of_heap HE.out)).trans HE.out)
      have HZ6 := Lib.hid (((ext_iff.1 hx).block _ (lt_of_heap HZ3.out)).trans HZ3.out)
      have B6 := Lib.hid (B3.out.trans ((ext_iff.1 hx).mono B3.out.size))
      clear hx HE HZ3 B3 f0 f1 f2 f3 f4 PT k2 k3
      obtain ⟨f0, f1, f2, f3, f4⟩ := ev_cells HE6.out
      have fz := free_of_heap HZ6.out
      obtain ⟨z0, z1, z2, z3, z4⟩ := ev_cells HZ6.out
      rcases hTc with ⟨rfl, hr, hp⟩ | ⟨rfl, hr⟩
      · cases hq : (!(T.toList == s.toList)) with
        | true =>
          go_wp2_with fail
          obtain ⟨S5, U5⟩ := set5 HZ6.out (.int .i64 0) (.string ⟨#[]⟩) (.string ⟨#[]⟩) (.string ⟨#[]⟩) (.string ⟨#[]⟩)
          have S5 := Lib.hid S5
          have B5 := Lib.hid (B6.out.grown U5 B6.out.size (by rintro _ ⟨⟩; exact Nat.le_refl _))
          clear U5
          generalize (((((w6.setCell ⟨w.heap.size, 0, none⟩ (.int .i64 0)).setCell ⟨w.heap.size, 1, none⟩ (.string ⟨#[]⟩)).setCell ⟨w.heap.size, 2, none⟩ (.string ⟨#[]⟩)).setCell ⟨w.heap.size, 3, none⟩ (.string ⟨#[]⟩)).setCell ⟨w.heap.size, 4, none⟩ (.string ⟨#[]⟩)) = w5 at S5 B5 ⊢
          exact ret_cells rfl rfl S5.out Tryd.underlying54 rfl (by kernel_rfl) rfl rfl ⟨by rw [hEv, answ_other hp hq]; rfl, ext_of B5.out⟩
        | false =>
          go_wp2_with fail
          obtain ⟨S5, U5⟩ := set5 HZ6.out (.int .i64 3) (.string p1) (.string ⟨#[]⟩) (.string ⟨#[]⟩) (.string ⟨#[]⟩)
          have S5 := Lib.hid S5
          have B5 := Lib.hid (B6.out.grown U5 B6.out.size (by rintro _ ⟨⟩; exact Nat.le_refl _))
          clear U5
          generalize (((((w6.setCell ⟨w.heap.size, 0, none⟩ (.int .i64 3)).setCell ⟨w.heap.size, 1, none⟩ (.string p1)).setCell ⟨w.heap.size, 2, none⟩ (.string ⟨#[]⟩)).setCell ⟨w.heap.size, 3, none⟩ (.string ⟨#[]⟩)).setCell ⟨w.heap.size, 4, none⟩ (.string ⟨#[]⟩)) = w5 at S5 B5 ⊢
          exact ret_cells rfl rfl S5.out Tryd.underlying54 rfl (by kernel_rfl) rfl rfl ⟨by rw [hEv, answ_yes hr hp hq]; rfl, ext_of B5.out⟩
      · skip
        go_wp2_with fail
        obtain ⟨S5, U5⟩ := set5 HZ6.out (.int .i64 0) (.string ⟨#[]⟩) (.string ⟨#[]⟩) (.string ⟨#[]⟩) (.string ⟨#[]⟩)
        have S5 := Lib.hid S5
        have B5 := Lib.hid (B6.out.grown U5 B6.out.size (by rintro _ ⟨⟩; exact Nat.le_refl _))
        clear U5
        generalize (((((w6.setCell ⟨w.heap.size, 0, none⟩ (.int .i64 0)).setCell ⟨w.heap.size, 1, none⟩ (.string ⟨#[]⟩)).setCell ⟨w.heap.size, 2, none⟩ (.string ⟨#[]⟩)).setCell ⟨w.heap.size, 3, none⟩ (.string ⟨#[]⟩)).setCell ⟨w.heap.size, 4, none⟩ (.string ⟨#[]⟩)) = w5 at S5 B5 ⊢
        exact ret_cells rfl rfl S5.out Tryd.underlying54 rfl (by kernel_rfl) rfl rfl ⟨by rw [hEv, answ_bad hr]; rfl, ext_of B5.out⟩
end Go.Proofs.YtjmbobjifojoiaaDoor
