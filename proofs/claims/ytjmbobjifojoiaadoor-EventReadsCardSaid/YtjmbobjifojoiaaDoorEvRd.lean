/- oubliettelaw.EventReads: which events may be, how they are written, and which one any text is (the walk). -/
import Derived.Test.YtjmbobjifojoiaaDoorProg
import Derived.Test.YtjmbobjifojoiaaDoorRefEvL
import Derived.Test.YtjmbobjifojoiaaDoorRefMark
import Derived.Test.YtjmbobjifojoiaaDoorSb
namespace Go.Proofs.YtjmbobjifojoiaaDoor
open Go.RowKit

set_option maxRecDepth 100000 in
set_option maxHeartbeats 4000000 in
theorem longev_any (e : Ev) (w : World) :
    Calls Tryd.prog 46 #[.agg (evV e)] w fun r w' => r = .returned (.bool (decide ((60 : Int) < e.subject.size) || decide ((60 : Int) < e.table.size) || decide ((60 : Int) < e.row.size) || decide ((60 : Int) < e.value.size))) ∧ ∃ x, w' = ext w x := by
  obtain ⟨k, u, t, r, v⟩ := e
  have N0 := fun w => long_any u w
  have N1 := fun w => long_any t w
  have N2 := fun w => long_any r w
  have N3 := fun w => long_any v w
  dsimp only
  generalize decide ((60 : Int) < u.size) = d0 at N0 ⊢
  generalize decide ((60 : Int) < t.size) = d1 at N1 ⊢
  generalize decide ((60 : Int) < r.size) = d2 at N2 ⊢
  generalize decide ((60 : Int) < v.size) = d3 at N3 ⊢
  unfold evV
  go_enter Tryd.func46, Tryd.ntmps46
  go_wp2_with fail
  refine (N0 _).mono ?_
  rintro _ w1 ⟨rfl, rfl⟩
  cases d0 with
  | true =>
    go_wp2_with fail
    go_ret
    exact ⟨rfl, ext_alloc _ (ext_refl w)⟩
  | false =>
    go_wp2_with fail
    refine (N1 _).mono ?_
    rintro _ w1 ⟨rfl, rfl⟩
    cases d1 with
    | true =>
      go_wp2_with fail
      go_ret
      exact ⟨rfl, ext_alloc _ (ext_refl w)⟩
    | false =>
      go_wp2_with fail
      refine (N2 _).mono ?_
      rintro _ w1 ⟨rfl, rfl⟩
      cases d2 with
      | true =>
        go_wp2_with fail
        go_ret
        exact ⟨rfl, ext_alloc _ (ext_refl w)⟩
      | false =>
        go_wp2_with fail
        refine (N3 _).mono ?_
        rintro _ w1 ⟨rfl, rfl⟩
        go_wp2_with fail
        go_ret
        exact ⟨rfl, ext_alloc _ (ext_refl w)⟩

set_option maxRecDepth 100000 in
set_option maxHeartbeats 4000000 in
theorem ereads_any (e : Ev) (s : ByteArray) (w : World) (hM : MaxL w) (hW : WordsV w) (hE : ErrT w) :
    Calls Tryd.prog 9 #[.agg (evV e), .string s] w (Res true w) := by
  have M := Lib.hid hM
  have WW := Lib.hid hW
  have ET := Lib.hid hE
  clear hM hW hE
  have LE := fun w => longev_any e w
  cases hl : (decide ((60 : Int) < e.subject.size) || decide ((60 : Int) < e.table.size) || decide ((60 : Int) < e.row.size) || decide ((60 : Int) < e.value.size)) with
  | true =>
    rw [hl] at LE
    clear hl
    unfold evV at LE ⊢
    go_enter Tryd.func9, Tryd.ntmps9
    go_wp2_with fail
    refine (LE _).mono ?_
    rintro _ w2 ⟨rfl, hx⟩
    have X2 := Lib.hid (ext_trans (ext_alloc _ (ext_refl w)) hx)
    clear hx
    go_wp2_with fail
    go_ret
    exact ⟨rfl, X2.out⟩
  | false =>
    rw [hl] at LE
    have hz : e.subject.size ≤ 60 ∧ e.table.size ≤ 60 ∧ e.row.size ≤ 60 ∧ e.value.size ≤ 60 := by
      simp only [Bool.or_eq_false_iff, decide_eq_false_iff_not] at hl
      omega
    have HZ := Lib.hid hz
    clear hl hz
    have RT := fun w => right_any e w (by have := HZ.out; omega)
    have RR := fun w => rright_any e w (by have := HZ.out; omega)
    have PR := fun w h => print_any e w (by have := HZ.out; omega) (by have := HZ.out; omega) h
    have RP := fun w => rprint_any e w (by have := HZ.out; omega)
    rw [rightE_is] at RT PR
    have TT := Lib.hid (rfl : (⟨(if rightE okR e = true then printL e else []).toArray⟩ : ByteArray) = ⟨(if rightE okR e = true then printL e else []).toArray⟩)
    generalize (⟨(if rightE okR e = true then printL e else []).toArray⟩ : ByteArray) = T at PR RP
    clear TT
    generalize rightE okR e = R at RT RR PR RP
    rw [show (if R = true then Value.nilIface else errV 1) = errOf (if R = true then 0 else 1) by cases R <;> rfl] at PR
    generalize (if R = true then (0 : Int) else 1) = c at PR RP
    have NN := Lib.hid (errOf_num c)
    have NB := fun w h => bare_any (errOf c) (errOf_is c) c w h
    rw [NN.out] at NB
    have hTT : (!(T.toList == T.toList)) = false := by simp
    have hRR : (!(R == R)) = false := by simp
    obtain ⟨k, u, t, r, v⟩ := e
    clear HZ
    unfold evV at LE RT RR PR RP ⊢
    go_enter Tryd.func9, Tryd.ntmps9
    go_wp2_with fail
    have H1 := Lib.hid (heap_alloc_at w (.cells #[.int .i64 k, .string u, .string t, .string r, .string v] 54))
    have X1 := Lib.hid (ext_alloc (.cells #[.int .i64 k, .string u, .string t, .string r, .string v] 54) (ext_refl w))
    generalize w.alloc (.cells #[.int .i64 k, .string u, .string t, .string r, .string v] 54) = w1 at H1 X1 ⊢
    refine (LE _).mono ?_
    rintro _ w2 ⟨rfl, hx⟩
    have H2 := Lib.hid (((ext_iff.1 hx).block _ (lt_of_heap H1.out)).trans H1.out)
    have X2 := Lib.hid (ext_trans X1.out hx)
    clear hx H1 X1 LE
    obtain ⟨c0, c1, c2, c3, c4⟩ := ev_cells H2.out
    cases h4 : decide ((150 : Int) < s.size) with
    | true =>
      go_wp2_with fail
      go_ret
      exact ⟨rfl, X2.out⟩
    | false =>
      have HS := Lib.hid (show s.size ≤ 1048576 by have := of_decide_eq_false h4; omega)
      go_wp2_with fail
      refine (RP _).mono ?_
      rintro _ w3 ⟨rfl, hx⟩
      have H3 := Lib.hid (((ext_iff.1 hx).block _ (lt_of_heap H2.out)).trans H2.out)
      have X3 := Lib.hid (ext_trans X2.out hx)
      clear hx H2 X2 RP c0 c1 c2 c3 c4
      obtain ⟨c0, c1, c2, c3, c4⟩ := ev_cells H3.out
      go_wp2_with fail
      refine (PR _ (WordsV_ext WW.out X3.out)).mono ?_
      rintro _ w4 ⟨rfl, hx⟩
      have H4 := Lib.hid (((ext_iff.1 hx).block _ (lt_of_heap H3.out)).trans H3.out)
      have X4 := Lib.hid (ext_trans X3.out hx)
      clear hx H3 X3 PR c0 c1 c2 c3 c4
      obtain ⟨c0, c1, c2, c3, c4⟩ := ev_cells H4.out
      have lw4 := lt_of_heap H4.out
      go_wp2_with fail
      refine wp_region_ext (by kernel_rfl) (by kernel_rfl) ?_
      repeat (go_big_quiet_step (first | (go_at_call 14; refine (NB _ (ErrT_ext ET.out (ext_trans X4.out ⟨_, rfl⟩))).mono ?_; rintro _ _ ⟨rfl, hx⟩; exact ⟨rfl, ext_trans ⟨_, rfl⟩ hx⟩) | (go_at_call 38; refine (RT _).mono ?_; rintro _ _ ⟨rfl, hx⟩; exact ⟨rfl, ext_trans ⟨_, rfl⟩ hx⟩) | (go_at_call 48; refine (RR _).mono ?_; rintro _ _ ⟨rfl, hx⟩; exact ⟨rfl, ext_trans ⟨_, rfl⟩ hx⟩)))
      refine wpQuiet_nil ?_
      rintro _ ⟨x, rfl⟩
      have X5 := Lib.hid (ext_trans X4.out ⟨x, rfl⟩)
      generalize ext w4 x = w5 at X5 ⊢
      clear H4 X4 c0 c1 c2 c3 c4 lw4 hTT hRR NB NN RT RR
      have RQ := fun w h => rparse_any s w HS.out h
      have PA := fun w h1 h2 => parse_any s w HS.out h1 h2
      unfold ParsePost at PA
      rw [show parseX s = errOf (if parses okV (txt s) then 0 else 3) by unfold parseX; split <;> rfl] at PA
      generalize (if parses okV (txt s) then (0 : Int) else 3) = c at RQ PA
      generalize parseE s = F at RQ PA
      obtain ⟨k', u', t', r', v'⟩ := F
      unfold evV at RQ PA
      dsimp only at RQ PA
      have NN := Lib.hid (errOf_num c)
      have NB := fun w h => bare_any (errOf c) (errOf_is c) c w h
      rw [NN.out] at NB
      go_wp2_with fail
      refine (RQ _ (MaxL_ext M.out X5.out)).mono ?_
      rintro _ w6 ⟨rfl, hx⟩
      have X6 := Lib.hid (ext_trans X5.out hx)
      clear hx X5 RQ
      go_wp2_with fail
      have H7 := Lib.hid (heap_alloc_at w6 (.cells #[.int .i64 k', .string u', .string t', .string r', .string v'] 54))
      have X7 := Lib.hid (ext_alloc (.cells #[.int .i64 k', .string u', .string t', .string r', .string v'] 54) X6.out)
      generalize hb6 : w6.heap.size = b6 at H7 ⊢
      clear hb6
      generalize w6.alloc (.cells #[.int .i64 k', .string u', .string t', .string r', .string v'] 54) = w7 at H7 X7 ⊢
      refine (PA _ (MaxL_ext M.out X7.out) (WordsV_ext WW.out X7.out)).mono ?_
      rintro _ w8 ⟨rfl, hx⟩
      have H8 := Lib.hid (((ext_iff.1 hx).block _ (lt_of_heap H7.out)).trans H7.out)
      have X8 := Lib.hid (ext_trans X7.out hx)
      clear hx H7 X7 PA X6
      go_wp2_with fail
      have H9 := Lib.hid ((heap_alloc_old w8 (.cells #[.int .i64 k', .string u', .string t', .string r', .string v'] 54) (lt_of_heap H8.out)).trans H8.out)
      have G9 := Lib.hid (heap_alloc_at w8 (.cells #[.int .i64 k', .string u', .string t', .string r', .string v'] 54))
      have X9 := Lib.hid (ext_alloc (.cells #[.int .i64 k', .string u', .string t', .string r', .string v'] 54) X8.out)
      generalize hb8 : w8.heap.size = b8 at G9 ⊢
      clear hb8
      generalize w8.alloc (.cells #[.int .i64 k', .string u', .string t', .string r', .string v'] 54) = w9 at H9 G9 X9 ⊢
      clear H8 X8
      refine (NB _ (ErrT_ext ET.out X9.out)).mono ?_
      rintro _ w10 ⟨rfl, hx⟩
      have H10 := Lib.hid (((ext_iff.1 hx).block _ (lt_of_heap H9.out)).trans H9.out)
      have G10 := Lib.hid (((ext_iff.1 hx).block _ (lt_of_heap G9.out)).trans G9.out)
      have X10 := Lib.hid (ext_trans X9.out hx)
      clear hx H9 G9 X9 NB
      obtain ⟨c0, c1, c2, c3, c4⟩ := ev_cells H10.out
      obtain ⟨d0, d1, d2, d3, d4⟩ := ev_cells G10.out
      go_wp2_with fail
      go_ret
      exact ⟨by simp, X10.out⟩
end Go.Proofs.YtjmbobjifojoiaaDoor
