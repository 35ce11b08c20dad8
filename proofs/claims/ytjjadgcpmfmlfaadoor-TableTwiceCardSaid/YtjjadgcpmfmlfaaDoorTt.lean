/- oubliettekeep.TableTwice (the walk). -/
import Derived.Test.YtjjadgcpmfmlfaaDoorProg
import Derived.Test.YtjjadgcpmfmlfaaDoorDelF
import Derived.Test.YtjjadgcpmfmlfaaDoorTabz
import Derived.Test.YtjjadgcpmfmlfaaDoorEqC
import Derived.Test.YtjjadgcpmfmlfaaDoorArgE
namespace Go.Proofs.YtjjadgcpmfmlfaaDoor
open Go.RowKit Go.Shelf

theorem evs_kept {w w' : World} {q : Option Addr} {l : List Ev} {n : Nat} (h : evsAt w q l) (hb : Below n w w') (hn : w.heap.size ≤ n) : evsAt w' q l := evsAt_of h (fun k hk => hb.block k (Nat.lt_of_lt_of_le hk hn)) hb.size
theorem evs_row {w : World} {q : Option Addr} {l : List Ev} {j : Nat} {x : Ev} (h : evsAt w q l) (hj : l[j]? = some x) : ∃ g o, q = some ⟨g, o, none⟩ ∧ w.cell? ⟨g, o + j * 5, none⟩ = some (.int .i64 x.kind) ∧ w.cell? ⟨g, o + j * 5 + 1, none⟩ = some (.string x.subject) ∧ w.cell? ⟨g, o + j * 5 + 2, none⟩ = some (.string x.table) ∧ w.cell? ⟨g, o + j * 5 + 3, none⟩ = some (.string x.row) ∧ w.cell? ⟨g, o + j * 5 + 4, none⟩ = some (.string x.value) := by
  rcases h with rfl | ⟨g, o, hq, hg, hc⟩
  · simp at hj
  · exact ⟨g, o, hq, evsAt_cells hc hj⟩
theorem evs_one {w : World} {b : Nat} {e : Ev} {t : TypeId} {f : Nat × Nat} (h : w.heap[b]? = some (.cells #[.int .i64 e.kind, .string e.subject, .string e.table, .string e.row, .string e.value] t f)) : evsAt w (some ⟨b, 0, none⟩) [e] := by
  refine .inr ⟨b, 0, rfl, lt_of_heap h, fun j x hj i v hi => ?_⟩
  have hj0 : j = 0 := by have := (List.getElem?_eq_some_iff.1 hj).1; simp at this; omega
  subst hj0
  simp only [List.getElem?_cons_zero, Option.some.injEq] at hj
  subst hj
  rw [cell_in, h]
  have hi5 : i < 5 := (List.getElem?_eq_some_iff.1 hi).1
  simp only [cellIn, Nat.zero_mul, Nat.zero_add, Option.isSome_none, Bool.false_eq_true, if_false]
  rw [show #[Value.int .i64 e.kind, .string e.subject, .string e.table, .string e.row, .string e.value] = (evVs e).toArray from rfl, List.getElem?_toArray]
  exact hi
theorem cells_row {w : World} {q : Option Addr} {l : List Cell} (h : cellsIn w q l) {j : Nat} {c : Cell} (hj : l[j]? = some c) :
    ∃ g, q = some ⟨g, 0, none⟩ ∧ g < w.heap.size ∧ w.cell? ⟨g, j * 4, none⟩ = some (.string c.table) ∧ w.cell? ⟨g, j * 4 + 1, none⟩ = some (.string c.row) := by
  rcases h with rfl | ⟨g, hq, hg, hc⟩
  · simp at hj
  · have hl := (List.getElem?_eq_some_iff.1 hj).1
    have he : l[j]! = c := by rw [getElem!_pos l j hl]; exact (List.getElem?_eq_some_iff.1 hj).2
    have h := hc j hl
    rw [he, Nat.zero_add] at h
    exact ⟨g, hq, hg, h 0 _ rfl, h 1 _ rfl⟩
set_option maxRecDepth 100000 in
set_option maxHeartbeats 8000000 in
theorem twice_any (q : Option Addr) (cp : Nat) (l : List Ev) (e : Ev) (w : World) (hl : l.length ≤ 9223372036854775807) (h1 : evsAt w q l) :
    Calls Tryd.prog 12 #[.slice q l.length cp, .agg (evV e)] w (Res true w) := by
  obtain ⟨k0, s0, t0, r0, v0⟩ := e
  have X0 := Lib.hid (ext_alloc (.cells #[.int .i64 k0, .string s0, .string t0, .string r0, .string v0] 54) (ext_refl w))
  have H0 := Lib.hid (heap_alloc_at w (.cells #[.int .i64 k0, .string s0, .string t0, .string r0, .string v0] 54))
  have E0 := Lib.hid (evs_kept h1 (ext_iff.1 X0.out) (Nat.le_refl _))
  have F1 := few_any q cp l _ hl E0.out
  have S1 := Lib.hid (fun (h : fewB l = true) => few_smalls h)
  unfold evV
  dsimp only
  clear h1
  go_enter Tryd.func12, Tryd.ntmps12
  go_wp2_with fail
  refine F1.mono ?_
  rintro _ w1 ⟨rfl, hx⟩
  have X1 := Lib.hid (ext_trans X0.out hx)
  have H1 := Lib.hid (((ext_iff.1 hx).block _ (lt_of_heap H0.out)).trans H0.out)
  have E1 := Lib.hid (evs_kept E0.out (ext_iff.1 hx) (Nat.le_refl _))
  have hweb : w.heap.size ≤ w.heap.size := Nat.le_refl _
  clear hx F1 X0 H0 E0
  generalize heb : w.heap.size = eb at H1 hweb ⊢
  generalize fewB l = few1 at S1
  cases few1 with
  | false =>
    go_wp2_with fail
    go_ret
    exact ⟨rfl, X1.out⟩
  | true =>
    obtain ⟨b0, b1, b2, b3, b4⟩ := ev_cells H1.out
    have XA := Lib.hid (ext_alloc (.cells #[.int .i64 k0, .string s0, .string t0, .string r0, .string v0] 54) (ext_refl w1))
    have F2 := few_any (some ⟨w1.heap.size, 0, none⟩) 1 [⟨k0, s0, t0, r0, v0⟩] _ (by simp) (evs_one (e := ⟨k0, s0, t0, r0, v0⟩) (heap_alloc_at w1 (.cells #[.int .i64 k0, .string s0, .string t0, .string r0, .string v0] 54)))
    have S2 := Lib.hid (fun (h : fewB [⟨k0, s0, t0, r0, v0⟩] = true) => (few_smalls h).2 ⟨k0, s0, t0, r0, v0⟩ (List.mem_cons_self ..))
    go_wp2_with fail
    refine F2.mono ?_
    rintro _ w2 ⟨rfl, hx⟩
    have hx := ext_trans XA.out hx
    have X2 := Lib.hid (ext_trans X1.out hx)
    have H2 := Lib.hid (((ext_iff.1 hx).block _ (lt_of_heap H1.out)).trans H1.out)
    have E2 := Lib.hid (evs_kept E1.out (ext_iff.1 hx) (Nat.le_refl _))
    clear hx F2 X1 H1 E1 XA b0 b1 b2 b3 b4
    generalize fewB [⟨k0, s0, t0, r0, v0⟩] = few2 at S2
    cases few2 with
    | false =>
      go_wp2_with fail
      go_ret
      exact ⟨rfl, X2.out⟩
    | true =>
      have SM := Lib.hid (S1.out (by simp)).2
      have hn := (S1.out (by simp)).1
      have SZ := Lib.hid (S2.out (by simp))
      clear S1 S2
      go_wp2_with fail
      refine (applied_any _).mono ?_
      rintro _ w3 ⟨rfl, hx⟩
      have X3 := Lib.hid (ext_trans X2.out hx)
      have H3 := Lib.hid (((ext_iff.1 hx).block _ (lt_of_heap H2.out)).trans H2.out)
      have E3 := Lib.hid (evs_kept E2.out (ext_iff.1 hx) (Nat.le_refl _))
      clear hx X2 H2 E2
      go_wp2_with fail
      have TB := Lib.hid (tabs.made3 w3)
      generalize ((w3.alloc (.cells #[.map none] 75)).alloc (.cells #[.map none] 75)).alloc (.cells #[.map none] 75) = w4 at TB ⊢
      have hes : eb < w3.heap.size := lt_of_heap H3.out
      generalize hsb : w3.heap.size = sb at TB hes ⊢
      go_loopw [8] (fun iv wr => ∃ (k : Nat) (T : Nat → List Cell), k ≤ l.length ∧ iv = .int .i64 k ∧ Hid (tabs sb w3 wr sb 3 (3 * k) T) ∧ Hid (T 0 = foldT okV (l.take k) []) ∧ Hid (T 1 = foldT okV (l.take k) []) ∧ Hid (T 2 = foldT okV (l.take k) [])) (fun iv _ => l.length - (intOf iv).toNat)
      case atStart => exact ⟨0, _, Nat.zero_le _, rfl, TB, Lib.hid rfl, Lib.hid rfl, Lib.hid rfl⟩
      case round =>
        clear TB w4
        obtain ⟨k, T, hk, rfl, TB, Q0, Q1, Q2⟩ := hrel
        by_cases hlt : k < l.length
        · have hx := List.getElem?_eq_getElem hlt
          have hsx := SM.out _ (List.getElem_mem hlt)
          have TT := Lib.hid (show foldT okV (l.take (k + 1)) [] = applyT okV l[k] (foldT okV (l.take k) []) from by
            rw [List.take_add_one, foldT_append, hx]; rfl)
          generalize l[k] = x at hx hsx TT
          generalize foldT okV (l.take k) [] = F at TT Q0 Q1 Q2
          generalize hF' : foldT okV (l.take (k + 1)) [] = F' at TT
          have hlt' : (k : Int) < l.length := by omega
          have AP := apply_tabs x TB.out 0 sb (by decide) rfl (by omega) hsx
          obtain ⟨g, o, rfl, e0, e1, e2, e3, e4⟩ := evs_row (evs_kept E3.out TB.out.below (Nat.le_of_eq hsb)) hx
          generalize (if rightE okV x = true then Value.nilIface else errV 1) = rv0 at AP
          unfold evV at AP
          go_wp2_with fail
          refine AP.mono ?_
          rintro _ wa0 ⟨rfl, TB1⟩
          have TB1 := Lib.hid TB1
          clear AP e0 e1 e2 e3 e4
          have AP := apply_tabs x TB1.out 1 (sb + 1) (by decide) rfl (by omega) hsx
          obtain ⟨g', o', hq', e0, e1, e2, e3, e4⟩ := evs_row (evs_kept E3.out TB1.out.below (Nat.le_of_eq hsb)) hx
          cases hq'
          generalize (if rightE okV x = true then Value.nilIface else errV 1) = rv1 at AP
          unfold evV at AP
          go_wp2_with fail
          refine AP.mono ?_
          rintro _ wa1 ⟨rfl, TB2⟩
          have TB2 := Lib.hid TB2
          clear AP e0 e1 e2 e3 e4 TB1
          have AP := apply_tabs x TB2.out 2 (sb + 2) (by decide) rfl (by omega) hsx
          obtain ⟨g', o', hq', e0, e1, e2, e3, e4⟩ := evs_row (evs_kept E3.out TB2.out.below (Nat.le_of_eq hsb)) hx
          cases hq'
          generalize (if rightE okV x = true then Value.nilIface else errV 1) = rv2 at AP
          unfold evV at AP
          go_wp2_with fail
          refine AP.mono ?_
          rintro _ wa2 ⟨rfl, TB3⟩
          have TB3 := Lib.hid TB3
          clear AP e0 e1 e2 e3 e4 TB2
          go_wp2_with fail
          go_roundw
          case rel => exact ⟨k + 1, _, hlt, by go_num, Lib.hid (by rw [show 3 * (k + 1) = 3 * k + 1 + 1 + 1 by omega]; exact TB3.out), Lib.hid (by rw [updT_other _ _ (by decide), updT_other _ _ (by decide), updT_same, Q0.out, hF', TT.out]), Lib.hid (by rw [updT_other _ _ (by decide), updT_same, updT_other _ _ (by decide), Q1.out, hF', TT.out]), Lib.hid (by rw [updT_same, updT_other _ _ (by decide), updT_other _ _ (by decide), Q2.out, hF', TT.out])⟩
          case measure => simp [intOf]; omega
        · obtain rfl : k = l.length := by omega
          rw [List.take_length] at Q0 Q1 Q2
          have NM := Lib.hid (named_fold okV l (T := []) (fun c hc => by cases hc))
          have ON := Lib.hid (Q0.out ▸ TB.out.once 0 (by decide) : Once (foldT okV l []))
          generalize foldT okV l [] = F at Q0 Q1 Q2 NM ON
          have C0 := cells_in (TB.out.one 0 sb (by decide) rfl) (by omega)
          go_wp2_with fail
          refine C0.mono ?_
          rintro _ w8 ⟨v8, c8, rfl, p8, a8, o8, -, B8⟩
          have TZ := Lib.hid (tabz.of TB.out (by decide) B8)
          have hn8 : c8.length ≤ 90 := by have := (TB.out.one 0 sb (by decide) rfl).len; have := p8.length_eq; omega
          obtain ⟨q8, cap8, rfl⟩ := rows_shape o8
          have O8 := Lib.hid o8
          have P8 := Lib.hid (Q0.out ▸ p8 : c8.Perm F)
          have A8 := Lib.hid a8
          clear C0 o8 p8 a8 B8 TB
          generalize wr.heap.size = za at TZ O8
          -- x.Apply(e)
          have EE := Lib.hid (((TZ.out.below).block _ hes).trans H3.out)
          obtain ⟨b0, b1, b2, b3, b4⟩ := ev_cells EE.out
          clear EE
          have AP := apply_tabz ⟨k0, s0, t0, r0, v0⟩ TZ.out 0 sb (by decide) rfl (by omega) SZ.out
          generalize (if rightE okV ⟨k0, s0, t0, r0, v0⟩ = true then Value.nilIface else errV 1) = rv at AP
          unfold evV at AP
          dsimp only at AP
          go_wp2_with fail
          refine AP.mono ?_
          rintro _ w9 ⟨rfl, TZ1⟩
          have TZ1 := Lib.hid TZ1
          clear AP TZ b0 b1 b2 b3 b4
          -- y.Apply(e), twice
          have AP := apply_tabz ⟨k0, s0, t0, r0, v0⟩ TZ1.out 1 (sb + 1) (by decide) rfl (by omega) SZ.out
          have EE := Lib.hid (((TZ1.out.below).block _ hes).trans H3.out)
          obtain ⟨b0, b1, b2, b3, b4⟩ := ev_cells EE.out
          generalize (if rightE okV ⟨k0, s0, t0, r0, v0⟩ = true then Value.nilIface else errV 1) = rv2 at AP
          unfold evV at AP
          dsimp only at AP
          go_wp2_with fail
          refine AP.mono ?_
          rintro _ w10 ⟨rfl, TZ2⟩
          have TZ2 := Lib.hid TZ2
          clear AP TZ1 b0 b1 b2 b3 b4 EE
          have AP := apply_tabz ⟨k0, s0, t0, r0, v0⟩ TZ2.out 1 (sb + 1) (by decide) rfl (by omega) SZ.out
          have EE := Lib.hid (((TZ2.out.below).block _ hes).trans H3.out)
          obtain ⟨b0, b1, b2, b3, b4⟩ := ev_cells EE.out
          generalize (if rightE okV ⟨k0, s0, t0, r0, v0⟩ = true then Value.nilIface else errV 1) = rv3 at AP
          unfold evV at AP
          dsimp only at AP
          go_wp2_with fail
          refine AP.mono ?_
          rintro _ w11 ⟨rfl, TZ3⟩
          have AT := Lib.hid (apply_twice okV ⟨k0, s0, t0, r0, v0⟩ ON.out)
          generalize hT' : updT (updT (updT T 0 (applyT okV ⟨k0, s0, t0, r0, v0⟩ (T 0))) 1 (applyT okV ⟨k0, s0, t0, r0, v0⟩ (updT T 0 (applyT okV ⟨k0, s0, t0, r0, v0⟩ (T 0)) 1))) 1 (applyT okV ⟨k0, s0, t0, r0, v0⟩ (updT (updT T 0 (applyT okV ⟨k0, s0, t0, r0, v0⟩ (T 0))) 1 (applyT okV ⟨k0, s0, t0, r0, v0⟩ (updT T 0 (applyT okV ⟨k0, s0, t0, r0, v0⟩ (T 0)) 1)) 1)) = T' at TZ3
          have TZ3 := Lib.hid TZ3
          have Y0 : Hid (T' 0 = applyT okV ⟨k0, s0, t0, r0, v0⟩ F) := Lib.hid (by rw [← hT', updT_other _ _ (by decide), updT_other _ _ (by decide), updT_same, Q0.out])
          have Y1 : Hid (T' 1 = applyT okV ⟨k0, s0, t0, r0, v0⟩ F) := Lib.hid (by rw [← hT', updT_same, updT_same, updT_other _ _ (by decide), Q1.out, AT.out])
          have Y2 : Hid (T' 2 = F) := Lib.hid (by rw [← hT', updT_other _ _ (by decide), updT_other _ _ (by decide), updT_other _ _ (by decide), Q2.out])
          clear AP TZ2 b0 b1 b2 b3 b4 EE Q0 Q1 Q2 AT hT'
          -- x.Cells(), y.Cells(): alike
          have C0 := cells_in (TZ3.out.one 0 (sb) (by decide) rfl) (by omega)
          go_wp2_with fail
          refine C0.mono ?_
          rintro _ wcA ⟨vc, cc, rfl, pc, ac, oc, -, Bc⟩
          obtain ⟨qc, capc, rfl⟩ := rows_shape oc
          have CI := Lib.hid (cellsIn_of oc).1
          have TY := Lib.hid (TZ3.out.ext (ext_of Bc))
          clear C0 oc
          have C1 := cells_in (TY.out.one 1 (sb + 1) (by decide) rfl) (by omega)
          go_wp2_with fail
          refine C1.mono ?_
          rintro _ wdA ⟨vd, cd, rfl, pd, ad, od, -, Bd⟩
          obtain ⟨qd, capd, rfl⟩ := rows_shape od
          have CJ := Lib.hid (cellsIn_of od).1
          have CI2 := Lib.hid (rows_at CI.out Bd)
          have TZA := Lib.hid (TY.out.ext (ext_of Bd))
          rw [Y0.out] at pc
          rw [Y1.out] at pd
          have hs := asc_eq ac ad (pc.trans pd.symm)
          have hnc : cc.length ≤ 1048576 := by have := (TZ3.out.one 0 (sb) (by decide) rfl).len; rw [Y0.out] at this; have := pc.length_eq; omega
          have EQ := eqC_any qc qd capc capd cc cd wdA (by omega) (by rw [← hs]; omega) CI2.out CJ.out
          rw [(allEq_cells cc cd).2 hs] at EQ
          clear C1 od hs hnc pc pd ac ad Bc Bd CI TY CJ CI2
          go_wp2_with fail
          refine EQ.mono ?_
          rintro _ weA ⟨rfl, hx⟩
          have EXA := Lib.hid hx
          clear EQ hx
          have TZ4 := Lib.hid (TZA.out.ext EXA.out)
          clear EXA TZA TZ3
          have EE := Lib.hid (((TZ4.out.below).block _ hes).trans H3.out)
          obtain ⟨b0, b1, b2, b3, b4⟩ := ev_cells EE.out
          have RT := fun w => right_any ⟨k0, s0, t0, r0, v0⟩ w SZ.out
          cases hr : rightE okV ⟨k0, s0, t0, r0, v0⟩ with
          | false =>
            rw [hr] at RT
            have AW := Lib.hid (apply_wrong okV hr F)
            unfold evV at RT
            dsimp only at RT
            go_wp2_with fail
            refine (RT _).mono ?_
            rintro _ w15 ⟨rfl, hx⟩
            have TZ5 := Lib.hid (TZ4.out.ext hx)
            clear RT hx TZ4 EE b0 b1 b2 b3 b4
            have C0 := cells_in (TZ5.out.one 0 sb (by decide) rfl) (by omega)
            go_wp2_with fail
            refine C0.mono ?_
            rintro _ w16 ⟨vb, cb, rfl, pb, ab, ob, -, Bb⟩
            obtain ⟨qb, capb, rfl⟩ := rows_shape ob
            have CI := Lib.hid (cellsIn_of ob).1
            have TZ6 := Lib.hid (TZ5.out.ext (ext_of Bb))
            have hs : cb = c8 := asc_eq ab A8.out ((pb.trans (by rw [Y0.out, AW.out])).trans P8.out.symm)
            subst hs
            have EQ := eqC_any qb q8 capb cap8 cb cb w16 (by omega) (by omega) CI.out (TZ6.out.rows O8.out)
            rw [(allEq_cells cb cb).2 rfl] at EQ
            clear C0 ob pb ab Bb CI TZ5
            go_wp2_with fail
            refine EQ.mono ?_
            rintro _ w17 ⟨rfl, hx⟩
            have X17 := Lib.hid (ext_trans (ext_trans X3.out (ext_of (by rw [hsb]; exact TZ6.out.below))) hx)
            clear EQ hx TZ6
            go_wp2_with fail
            go_ret
            exact ⟨rfl, X17.out⟩
          | true =>
            rw [hr] at RT
            unfold evV at RT
            dsimp only at RT
            go_wp2_with fail
            refine (RT _).mono ?_
            rintro _ w15 ⟨rfl, hx⟩
            have TZ5 := Lib.hid (TZ4.out.ext hx)
            have X5 := Lib.hid (ext_trans X3.out (ext_of (by rw [hsb]; exact TZ5.out.below)))
            have EE := Lib.hid (((TZ5.out.below).block _ hes).trans H3.out)
            clear RT hx TZ4 b0 b1 b2 b3 b4
            obtain ⟨b0, b1, b2, b3, b4⟩ := ev_cells EE.out
            by_cases hk1 : k0 = 1
            · subst hk1
              have FZ := free_of_heap EE.out
              have FZ1 := free_of_heap (heap_setCell (i := 0) EE.out (.int .i64 2))
              have HS : Hid (((w15.setCell ⟨eb, 0, none⟩ (.int .i64 2)).setCell ⟨eb, 4, none⟩ (.string ⟨#[]⟩)).heap[eb]? = some (.cells #[.int .i64 2, .string s0, .string t0, .string r0, .string ⟨#[]⟩] 54 (0, 0))) := Lib.hid ((heap_setCell (i := 4) (heap_setCell (i := 0) EE.out (.int .i64 2)) (.string ⟨#[]⟩)).trans rfl)
              have TS := Lib.hid (TZ5.out.store (w' := (w15.setCell ⟨eb, 0, none⟩ (.int .i64 2)).setCell ⟨eb, 4, none⟩ (.string ⟨#[]⟩)) hes (by simp [World.setCell]) ((grown_setCell w15 eb 0 (.int .i64 2)).trans (grown_setCell _ eb 4 (.string ⟨#[]⟩))))
              have XS := Lib.hid (ext_setCell (p := ⟨eb, 4, none⟩) (.string ⟨#[]⟩) (Nat.le_of_eq heb) (ext_setCell (p := ⟨eb, 0, none⟩) (.int .i64 2) (Nat.le_of_eq heb) X5.out))
              have PD := Lib.hid (put_del okV hr rfl ON.out)
              clear EE TZ5 X5
              go_wp2_with fail
              generalize (w15.setCell ⟨eb, 0, none⟩ (.int .i64 2)).setCell ⟨eb, 4, none⟩ (.string ⟨#[]⟩) = ws at HS TS XS ⊢
              clear b0 b1 b2 b3 b4 FZ FZ1
              have AP := apply_tabz ⟨2, s0, t0, r0, ⟨#[]⟩⟩ TS.out 0 sb (by decide) rfl (by omega) SZ.out
              generalize (if rightE okV ⟨2, s0, t0, r0, ⟨#[]⟩⟩ = true then Value.nilIface else errV 1) = rv4 at AP
              unfold evV at AP
              dsimp only at AP
              refine AP.mono ?_
              rintro _ w20 ⟨rfl, TD⟩
              have YD : Hid (updT T' 0 (applyT okV ⟨2, s0, t0, r0, ⟨#[]⟩⟩ (T' 0)) 0 = delT (ek ⟨1, s0, t0, r0, v0⟩) F) := Lib.hid (by rw [updT_same, Y0.out]; exact PD.out)
              generalize updT T' 0 (applyT okV ⟨2, s0, t0, r0, ⟨#[]⟩⟩ (T' 0)) = U at TD YD
              have TD := Lib.hid TD
              clear AP TS
              have CL := clone_any q8 cap8 c8 w20 (TD.out.rows O8.out) (by omega)
              go_wp2_with fail
              refine CL.mono ?_
              rintro _ w21 ⟨v21, rfl, o21, B21⟩
              have hes20 : eb < w20.heap.size := by have := TD.out.size.1; omega
              have HE21 := (B21.block eb hes20).trans ((TD.out.below.block eb hes).trans HS.out)
              have DF := delF_any t0 r0 eb w20.heap.size v21 c8 w21 o21 (by omega) (lt_of_heap HE21) hes20 (ev_cells HE21).2.2.1 (ev_cells HE21).2.2.2.1
              have NB := Lib.hid (fun k hk => (o21.base (g := k) hk).1)
              have HB21 := Lib.hid B21
              clear CL HE21 o21 B21
              go_wp2_with fail
              refine DF.mono ?_
              rintro _ w22 ⟨v22, rfl, o22, g22⟩
              have B22 := HB21.out.grown g22 HB21.out.size (fun k hk => NB.out k hk)
              have TF := Lib.hid (TD.out.ext (ext_of B22))
              obtain ⟨q22, cap22, rfl⟩ := rows_shape o22
              have CW := Lib.hid (cellsIn_of o22).1
              clear DF o22 g22 B22 NB HB21 TD
              have C0 := cells_in (TF.out.one 0 sb (by decide) rfl) (by omega)
              go_wp2_with fail
              refine C0.mono ?_
              rintro _ w23 ⟨vb, cb, rfl, pb, ab, ob, -, Bb⟩
              obtain ⟨qb, capb, rfl⟩ := rows_shape ob
              have CI := Lib.hid (cellsIn_of ob).1
              have TG := Lib.hid (TF.out.ext (ext_of Bb))
              have CW2 := Lib.hid (rows_at CW.out Bb)
              have hs : cb = c8.filter fun c => !rowIs t0 r0 c := asc_eq ab (asc_filter A8.out _) (pb.trans (by rw [YD.out]; exact (delT_perm P8.out ⟨1, s0, t0, r0, v0⟩ (rowIs t0 r0) (rowIs_iff ⟨1, s0, t0, r0, v0⟩)).symm))
              have hcb : (c8.filter fun c => !rowIs t0 r0 c).length ≤ c8.length := List.length_filter_le ..
              have EQ := eqC_any qb q22 capb cap22 cb (c8.filter fun c => !rowIs t0 r0 c) w23 (by rw [hs]; omega) (by omega) CI.out CW2.out
              rw [(allEq_cells _ _).2 hs] at EQ
              clear C0 ob pb ab Bb CI TF CW CW2 hs hcb
              go_wp2_with fail
              refine EQ.mono ?_
              rintro _ w24 ⟨rfl, hx⟩
              have X24 := Lib.hid (ext_trans (ext_of ((ext_iff.1 XS.out).trans (TG.out.below.mono (by omega)))) hx)
              clear EQ hx TG
              go_wp2_with fail
              go_ret
              exact ⟨rfl, X24.out⟩
            · by_cases hk3 : k0 = 3
              · subst hk3
                have GD := Lib.hid (fun (l' : List Cell) (h : l'.Perm F) => gone_dels okV hr rfl ON.out NM.out h)
                have hN : 3 * l.length + 1 + 1 + 1 ≤ 100 := by omega
                have CM := Lib.hid (fun c (h : c ∈ c8) => named_small NM.out (P8.out.mem_iff.1 h))
                clear X5 EE b0 b1 b2 b3 b4
                generalize 3 * l.length + 1 + 1 + 1 = N at TZ5 hN
                have EE := Lib.hid (((TZ5.out.below).block _ hes).trans H3.out)
                obtain ⟨b0, b1, b2, b3, b4⟩ := ev_cells EE.out
                go_wp2_with fail
                clear b0 b1 b2 b3 b4 EE
                go_loopw [11] (fun iv wx => ∃ (i : Nat) (U : Nat → List Cell), i ≤ c8.length ∧ iv = .int .i64 i ∧ Hid (tabz sb w3 wx sb 3 (N + i) U za w8.heap.size w8) ∧ Hid (U 0 = applyT okV ⟨3, s0, t0, r0, v0⟩ F) ∧ Hid (U 2 = foldT okV ((c8.take i).map (delBy s0)) F)) (fun iv _ => c8.length - (intOf iv).toNat)
                case atStart => exact ⟨0, T', Nat.zero_le _, rfl, TZ5, Y0, Lib.hid (by rw [Y2.out]; rfl)⟩
                case round =>
                  clear TZ5 Y0 Y1 Y2
                  obtain ⟨i, U, hi, rfl, TG, Y0, Y2⟩ := hrel
                  by_cases hlti : i < c8.length
                  · have hc := List.getElem?_eq_getElem hlti
                    have hcm := CM.out _ (List.getElem_mem hlti)
                    have FN := Lib.hid (show foldT okV ((c8.take (i + 1)).map (delBy s0)) F = applyT okV (delBy s0 c8[i]) (foldT okV ((c8.take i).map (delBy s0)) F) from by
                      rw [List.take_add_one, hc, List.map_append, foldT_append]; rfl)
                    generalize c8[i] = c at hc hcm FN
                    obtain ⟨g, hq, hgs, e0, e1⟩ := cells_row (TG.out.rows O8.out) hc
                    subst hq
                    have EE := Lib.hid (((TG.out.below).block _ hes).trans H3.out)
                    obtain ⟨b0, b1, b2, b3, b4⟩ := ev_cells EE.out
                    have hebx := lt_of_heap EE.out
                    have hlti' : (i : Int) < c8.length := by omega
                    go_wp2_with fail
                    refine wp_region_tail 13 (by kernel_rfl) (by kernel_rfl) ?_
                    simp only [List.take_succ_cons, List.take_zero, List.drop_succ_cons, List.drop_zero]
                    repeat (go_big_quiet_step (fail))
                    refine wpQuiet_nil ?_
                    rintro _ ⟨y, rfl⟩
                    have TG1 := Lib.hid (TG.out.ext ⟨y, rfl⟩)
                    clear TG e0 e1 b0 b1 b2 b3 b4 EE hebx hgs
                    generalize ext wr y = wy at TG1 ⊢
                    have AP := apply_tabz (delBy s0 c) TG1.out 2 (sb + 1 + 1) (by decide) rfl (by omega) ⟨SZ.out.1, hcm.1, hcm.2⟩
                    generalize (if rightE okV (delBy s0 c) = true then Value.nilIface else errV 1) = rv5 at AP
                    unfold evV at AP
                    rw [show (delBy s0 c).kind = 2 from rfl, show (delBy s0 c).subject = s0 from rfl, show (delBy s0 c).table = c.table from rfl, show (delBy s0 c).row = c.row from rfl, show (delBy s0 c).value = ⟨#[]⟩ from rfl] at AP
                    go_wp2_with fail
                    refine AP.mono ?_
                    rintro _ wz ⟨rfl, TH⟩
                    have TH := Lib.hid TH
                    clear AP TG1
                    go_wp2_with fail
                    go_roundw
                    case rel => exact ⟨i + 1, _, hlti, by go_num, TH, Lib.hid (by rw [updT_other _ _ (by decide), Y0.out]), Lib.hid (by rw [updT_same, Y2.out, FN.out])⟩
                    case measure => simp [intOf]; omega
                  · obtain rfl : i = c8.length := by omega
                    rw [List.take_length] at Y2
                    have YZ := Lib.hid (Y2.out.trans (GD.out c8 P8.out))
                    clear Y2
                    go_wp2_with fail
                    have C0 := cells_in (TG.out.one 0 (sb) (by decide) rfl) (by omega)
                    go_wp2_with fail
                    refine C0.mono ?_
                    rintro _ wcG ⟨vc, cc, rfl, pc, ac, oc, -, Bc⟩
                    obtain ⟨qc, capc, rfl⟩ := rows_shape oc
                    have CI := Lib.hid (cellsIn_of oc).1
                    have TY := Lib.hid (TG.out.ext (ext_of Bc))
                    clear C0 oc
                    have C1 := cells_in (TY.out.one 2 (sb + 1 + 1) (by decide) rfl) (by omega)
                    go_wp2_with fail
                    refine C1.mono ?_
                    rintro _ wdG ⟨vd, cd, rfl, pd, ad, od, -, Bd⟩
                    obtain ⟨qd, capd, rfl⟩ := rows_shape od
                    have CJ := Lib.hid (cellsIn_of od).1
                    have CI2 := Lib.hid (rows_at CI.out Bd)
                    have TZG := Lib.hid (TY.out.ext (ext_of Bd))
                    rw [Y0.out] at pc
                    rw [YZ.out] at pd
                    have hs := asc_eq ac ad (pc.trans pd.symm)
                    have hnc : cc.length ≤ 1048576 := by have := (TG.out.one 0 (sb) (by decide) rfl).len; rw [Y0.out] at this; have := pc.length_eq; omega
                    have EQ := eqC_any qc qd capc capd cc cd wdG (by omega) (by rw [← hs]; omega) CI2.out CJ.out
                    rw [(allEq_cells cc cd).2 hs] at EQ
                    clear C1 od hs hnc pc pd ac ad Bc Bd CI TY CJ CI2
                    go_wp2_with fail
                    refine EQ.mono ?_
                    rintro _ weG ⟨rfl, hx⟩
                    have EXG := Lib.hid hx
                    clear EQ hx
                    have XG := Lib.hid (ext_trans (ext_trans X3.out (ext_of (by rw [hsb]; exact TZG.out.below))) EXG.out)
                    clear EXG TZG TG
                    go_wp2_with fail
                    go_ret
                    exact ⟨rfl, XG.out⟩
              · go_wp2_with fail
                go_ret
                exact ⟨rfl, X5.out⟩
theorem twice_law (q : Option Addr) (cp : Nat) (l : List Ev) (e : Ev) (w : World) (hl : l.length ≤ 9223372036854775807) (_ : l.length ≤ cp) (h1 : evsAt w q l) :
    Calls Tryd.prog 12 #[.slice q l.length cp, .agg (evV e)] w (Res true w) := twice_any q cp l e w hl h1
end Go.Proofs.YtjjadgcpmfmlfaaDoor
