/- TableLast's first closure (the walk). -/
import Derived.Test.YtjmbobjifojoiaaDoorProg
import Derived.Test.YtjmbobjifojoiaaDoorLast1
namespace Go.Proofs.YtjmbobjifojoiaaDoor
open Go.RowKit Go.Shelf Go.Lib

theorem hits_is (k : Int) (s t r v : ByteArray) (x : Ev) (ok : Bool) (h : rightE okV ⟨k, s, t, r, v⟩ = ok) :
    hitsE okV ⟨k, s, t, r, v⟩ (cellE x) = (ok && ((decide (k = 1) && ((t.toList == x.table.toList) && (r.toList == x.row.toList))) || ((s.toList == x.subject.toList) && (decide (k = 3) || (decide (k = 2) && ((t.toList == x.table.toList) && (r.toList == x.row.toList))))))) := by
  have e1 : decide (ek ⟨k, s, t, r, v⟩ = ck (cellE x)) = ((t.toList == x.table.toList) && (r.toList == x.row.toList)) := by
    rw [← dec_eq, ← dec_eq, Bool.eq_iff_iff]
    simp only [decide_eq_true_eq, Bool.and_eq_true, ek, ck, cellE, Prod.mk.injEq]
  unfold hitsE
  rw [h, e1]
  dsimp only
  rw [show (cellE x).subject = x.subject from rfl, dec_eq]
set_option maxRecDepth 100000 in
set_option maxHeartbeats 8000000 in
theorem last1_any (e : Ev) (w : World) (lb ib g o n cap i : Nat) (x : Ev) (h : Cap w lb ib g o n cap i x) (hz : e.subject.size ≤ 1048576 ∧ e.table.size ≤ 1048576 ∧ e.row.size ≤ 1048576) :
    Calls Tryd.prog 57 #[.agg (evV e), .pointer (some ⟨lb, 0, none⟩), .pointer (some ⟨ib, 0, none⟩)] w (Res (hitsE okV e (cellE x)) w) := by
  have RT := fun w => right_any e w hz
  obtain ⟨k, s, t, r, v⟩ := e
  have HK := Lib.hid (fun h => kind_cases (ok := okV) (e := ⟨k, s, t, r, v⟩) h)
  have HE := Lib.hid (hits_is k s t r v x _ rfl)
  unfold evV at RT
  dsimp only at RT HK ⊢
  generalize hitsE okV ⟨k, s, t, r, v⟩ (cellE x) = b at HE ⊢
  generalize rightE okV ⟨k, s, t, r, v⟩ = ok at RT HK HE
  have hX := Lib.hid ((Cap.of h ((Below.refl w.heap.size w).alloc (Nat.le_refl _) (.cells #[.int .i64 k, .string s, .string t, .string r, .string v] 54)) (Nat.le_refl _)))
  have B1 := Lib.hid (ext_alloc (.cells #[.int .i64 k, .string s, .string t, .string r, .string v] 54) (ext_refl w))
  have H1 := Lib.hid (heap_alloc_at w (.cells #[.int .i64 k, .string s, .string t, .string r, .string v] 54))
  unfold evV
  dsimp only
  clear h
  go_enter Tryd.func57, Tryd.ntmps57
  go_wp2_with fail
  generalize w.alloc (.cells #[.int .i64 k, .string s, .string t, .string r, .string v] 54) = w1 at hX B1 H1 ⊢
  refine (RT _).mono ?_
  rintro _ w2 ⟨rfl, hx⟩
  have X2 := Lib.hid (Cap.of hX.out (ext_iff.1 hx) (Nat.le_refl _))
  have B2 := Lib.hid (ext_trans B1.out hx)
  have H2 := Lib.hid (((ext_iff.1 hx).block _ (lt_of_heap H1.out)).trans H1.out)
  clear hX B1 H1 hx RT
  cases ok with
  | false =>
    go_wp2_with fail
    go_ret
    exact ⟨by rw [HE.out]; rfl, B2.out⟩
  | true =>
    rw [Bool.true_and] at HE
    go_wp2_with fail
    obtain ⟨e0, e1, e2, e3, e4⟩ := X2.out.cells
    obtain ⟨d0, d1, d2, d3, d4⟩ := ev_cells H2.out
    have k1 := X2.out.hl
    have k2 := X2.out.hi
    have k3 := X2.out.hg
    have k4 := X2.out.cl
    have k5 := X2.out.ci
    have k6 : (i : Int) < n := by have := X2.out.lt; omega
    have k7 := lt_of_heap H2.out
    rcases HK.out trivial with rfl | rfl | rfl
    all_goals
      cases q1 : (t.toList == x.table.toList) <;> cases q2 : (r.toList == x.row.toList) <;> cases q3 : (s.toList == x.subject.toList)
      all_goals
        have HB := Lib.hid HE.out
        rw [q1, q2, q3] at HB
        refine wp_region_ext (by kernel_rfl) (by kernel_rfl) ?_
        repeat (go_big_quiet_step (fail))
        refine wpQuiet_nil ?_
        rintro _ ⟨y, rfl⟩
        go_wp2_with fail
        refine wp_region_ext (by kernel_rfl) (by kernel_rfl) ?_
        repeat (go_big_quiet_step (fail))
        refine wpQuiet_nil ?_
        rintro _ ⟨z, rfl⟩
        have B4 := Lib.hid (ext_trans (ext_trans B2.out ⟨y, rfl⟩) ⟨z, rfl⟩)
        generalize ext (ext w2 y) z = w4 at B4 ⊢
        go_wp2_with fail
        go_ret
        exact ⟨by rw [HB.out]; rfl, B4.out⟩
end Go.Proofs.YtjmbobjifojoiaaDoor
