/- desk: put, del, gone (the walks). · desk: save (the walk). -/
import Derived.Test.YtnkmckdefiblhaaGreatDoorProg
import Derived.Test.YtnkmckdefiblhaaGreatDoorG33
import Derived.Test.YtnkmckdefiblhaaGreatDoorG31
namespace Go.Proofs.YtnkmckdefiblhaaGreatDoor
open Go.RowKit Go.Shelf

set_option maxRecDepth 100000 in
set_option maxHeartbeats 2000000 in
theorem put_cmd (p : Option Addr) (ws : List ByteArray) (cap : Nat) (w : World) (A : Blk) (db n : Nat) (M : DkM) (h : cmdIn w A db n M p ws cap) :
    Calls Tryz.prog 42 #[.pointer (some ⟨db, 0, none⟩), .slice p ws.length cap] w (CmdPost (doA putN M ws) w A db n) := by
  have D := do_cmd putN p ws cap w A db n M (by decide) h
  clear h
  generalize doA putN M ws = x at D ⊢
  unfold putN at D
  obtain ⟨a, M'⟩ := x
  cases a with
  | ok s =>
    have HP : Hid (∀ e w', CmdPost (.ok s, M') w A db n e w' → e = .returned (.string s)) := Lib.hid fun e w' h => h.1
    generalize CmdPost (.ok s, M') w A db n = P at *
    go_enter Tryz.func42, Tryz.ntmps42
    go_wp2_with fail
    refine D.mono ?_
    intro e w1 hP
    obtain rfl := HP.out _ _ hP
    have HQ := Lib.hid hP
    clear hP D
    go_wp2_with fail
    exact HQ.out
  | er k =>
    have HP : Hid (∀ e w', CmdPost (.er k, M') w A db n e w' → e = .panicked (thrown k)) := Lib.hid fun e w' h => h.1
    generalize CmdPost (.er k, M') w A db n = P at *
    go_enter Tryz.func42, Tryz.ntmps42
    go_wp2_with fail
    refine D.mono ?_
    intro e w1 hP
    obtain rfl := HP.out _ _ hP
    have HQ := Lib.hid hP
    clear hP D
    go_wp2_with fail
    exact ⟨rfl, HQ.out⟩
set_option maxRecDepth 100000 in
set_option maxHeartbeats 2000000 in
theorem del_cmd (p : Option Addr) (ws : List ByteArray) (cap : Nat) (w : World) (A : Blk) (db n : Nat) (M : DkM) (h : cmdIn w A db n M p ws cap) :
    Calls Tryz.prog 36 #[.pointer (some ⟨db, 0, none⟩), .slice p ws.length cap] w (CmdPost (doA delN M ws) w A db n) := by
  have D := do_cmd delN p ws cap w A db n M (by decide) h
  clear h
  generalize doA delN M ws = x at D ⊢
  unfold delN at D
  obtain ⟨a, M'⟩ := x
  cases a with
  | ok s =>
    have HP : Hid (∀ e w', CmdPost (.ok s, M') w A db n e w' → e = .returned (.string s)) := Lib.hid fun e w' h => h.1
    generalize CmdPost (.ok s, M') w A db n = P at *
    go_enter Tryz.func36, Tryz.ntmps36
    go_wp2_with fail
    refine D.mono ?_
    intro e w1 hP
    obtain rfl := HP.out _ _ hP
    have HQ := Lib.hid hP
    clear hP D
    go_wp2_with fail
    exact HQ.out
  | er k =>
    have HP : Hid (∀ e w', CmdPost (.er k, M') w A db n e w' → e = .panicked (thrown k)) := Lib.hid fun e w' h => h.1
    generalize CmdPost (.er k, M') w A db n = P at *
    go_enter Tryz.func36, Tryz.ntmps36
    go_wp2_with fail
    refine D.mono ?_
    intro e w1 hP
    obtain rfl := HP.out _ _ hP
    have HQ := Lib.hid hP
    clear hP D
    go_wp2_with fail
    exact ⟨rfl, HQ.out⟩
set_option maxRecDepth 100000 in
set_option maxHeartbeats 2000000 in
theorem gone_cmd (p : Option Addr) (ws : List ByteArray) (cap : Nat) (w : World) (A : Blk) (db n : Nat) (M : DkM) (h : cmdIn w A db n M p ws cap) :
    Calls Tryz.prog 38 #[.pointer (some ⟨db, 0, none⟩), .slice p ws.length cap] w (CmdPost (doA goneN M ws) w A db n) := by
  have D := do_cmd goneN p ws cap w A db n M (by decide) h
  clear h
  generalize doA goneN M ws = x at D ⊢
  unfold goneN at D
  obtain ⟨a, M'⟩ := x
  cases a with
  | ok s =>
    have HP : Hid (∀ e w', CmdPost (.ok s, M') w A db n e w' → e = .returned (.string s)) := Lib.hid fun e w' h => h.1
    generalize CmdPost (.ok s, M') w A db n = P at *
    go_enter Tryz.func38, Tryz.ntmps38
    go_wp2_with fail
    refine D.mono ?_
    intro e w1 hP
    obtain rfl := HP.out _ _ hP
    have HQ := Lib.hid hP
    clear hP D
    go_wp2_with fail
    exact HQ.out
  | er k =>
    have HP : Hid (∀ e w', CmdPost (.er k, M') w A db n e w' → e = .panicked (thrown k)) := Lib.hid fun e w' h => h.1
    generalize CmdPost (.er k, M') w A db n = P at *
    go_enter Tryz.func38, Tryz.ntmps38
    go_wp2_with fail
    refine D.mono ?_
    intro e w1 hP
    obtain rfl := HP.out _ _ hP
    have HQ := Lib.hid hP
    clear hP D
    go_wp2_with fail
    exact ⟨rfl, HQ.out⟩
end Go.Proofs.YtnkmckdefiblhaaGreatDoor
namespace Go.Proofs.YtnkmckdefiblhaaGreatDoor
open Go.RowKit Go.Shelf

theorem setSv {w : World} {b : Nat} {v0 v1 v2 v3 v4 v5 : Value} {t : TypeId} (h : w.heap[b]? = some (.cells #[v0, v1, v2, v3, v4, v5] t (0, 0))) (x2 x3 x4 x5 : Value) :
    ((((w.setCell ⟨b, 2, none⟩ x2).setCell ⟨b, 3, none⟩ x3).setCell ⟨b, 4, none⟩ x4).setCell ⟨b, 5, none⟩ x5).heap[b]? = some (.cells #[v0, v1, x2, x3, x4, x5] t (0, 0)) ∧
    w.grownBy ((((w.setCell ⟨b, 2, none⟩ x2).setCell ⟨b, 3, none⟩ x3).setCell ⟨b, 4, none⟩ x4).setCell ⟨b, 5, none⟩ x5) (some b) :=
  ⟨heap_setCell (heap_setCell (heap_setCell (heap_setCell h _) _) _) _, (((grown_setCell _ _ _ _).trans (grown_setCell _ _ _ _)).trans (grown_setCell _ _ _ _)).trans (grown_setCell _ _ _ _)⟩
set_option maxRecDepth 100000 in
set_option maxHeartbeats 4000000 in
theorem save_cmd (p : Option Addr) (ws : List ByteArray) (cap : Nat) (w : World) (A : Blk) (db n : Nat) (M : DkM) (h : cmdIn w A db n M p ws cap) :
    Calls Tryz.prog 45 #[.pointer (some ⟨db, 0, none⟩), .slice p ws.length cap] w (CmdPost (saveD M ws) w A db n) := by
  have WD := dwords_any p ws.length cap 1 w h.glob.glob.err
  by_cases hl : ws.length = 1
  case neg =>
    rw [show saveD M ws = (.er 3, M) from if_neg hl]
    have HP : Hid (∀ w', (∃ x, w' = ext w x) → CmdPost (.er 3, M) w A db n (.panicked (thrown 3)) w') := Lib.hid fun w' hx => .same h.dk hx rfl rfl
    generalize CmdPost (.er 3, M) w A db n = P at HP ⊢
    have hli : (ws.length : Int) ≠ 1 := by omega
    clear h hl
    go_enter Tryz.func45, Tryz.ntmps45
    go_wp2_with fail
    refine WD.mono ?_
    rintro e w1 ⟨_, he, hx⟩
    obtain rfl := he hli
    have X := Lib.hid hx
    clear hx WD he
    go_wp2_with fail
    exact ⟨rfl, HP.out _ X.out⟩
  case pos =>
    have hli := Lib.hid (show (ws.length : Int) = 1 by omega)
    rw [show saveD M ws = (.ok (⟨#[115, 97, 118, 101, 32]⟩ ++ itoaT ((getR M (wd0 ws)).seq : Nat)), { setR M (wd0 ws) (getR M (wd0 ws)) with k := svOf (getR M (wd0 ws)) }) from if_pos hl]
    obtain ⟨own, sb, vb, mb, V, rb, q, c, H, rfl⟩ := h.dk
    have HD := Lib.hid H
    obtain ⟨c0, c1, c2, c3, c4, c5, lt⟩ := six_at H.blk
    have G := Lib.hid h.glob
    have IV := Lib.hid h.inv
    have SMW := Lib.hid h.small
    have hn := h.n_
    have hpos : 0 < ws.length := by omega
    obtain ⟨g, o, rfl, hg, hw⟩ := words_one h.words (by omega)
    clear h c0 c1 c2 c3 c4 c5
    clear hl
    go_enter Tryz.func45, Tryz.ntmps45
    go_wp2_with fail
    refine WD.mono ?_
    rintro e w1 ⟨he, _, hx⟩
    obtain rfl := he hli.out
    have X := Lib.hid hx
    clear hx WD he
    have hb1 := ext_iff.1 X.out
    have e0 : w1.cell? ⟨g, o, none⟩ = _ := cell_below hb1 hg hw
    have lg1 : g < w1.heap.size := Nat.lt_of_lt_of_le hg hb1.size
    have RD := reader_any (wd0 ws) w1 own db n M sb vb mb V rb q c (HD.out.ext X.out) (by have := wd0_size SMW.out; omega) (by omega)
    clear hb1
    go_wp2_with fail
    refine RD.mono ?_
    rintro _ w2 ⟨own2, rb2, rfl, h2, st2⟩
    have H2 := Lib.hid h2
    have S2 := Lib.hid ((step.of_ext (whole own) X.out).trans st2)
    clear h2 st2 RD e0 lg1
    have hsq : (getR M (wd0 ws)).seq ≤ 100 := by have h1 := IV.out.get (wd0 ws); have := h1.sq; have := IV.out.len; omega
    have RC := rsave_any w2 (own2 (.r (wd0 ws))) (rb2 (wd0 ws)) vb (n + 1) (getR M (wd0 ws)) (H2.out.at_ _ _ (set_rd _ _ _)) (by omega)
    unfold SavePost at RC
    have IT := fun w3 hG => itoa_any ((getR M (wd0 ws)).seq : Nat) w3 (F := none0) hG (by omega) (by omega)
    have his := itoa_size ((getR M (wd0 ws)).seq : Nat) (by omega) (by omega)
    go_wp2_with fail
    refine RC.mono ?_
    rintro _ w3 ⟨v, rfl, ho, hb⟩
    obtain ⟨q', cap', rfl⟩ := rows_shape ho
    have HO := Lib.hid ho
    have X3 := Lib.hid (ext_of hb)
    have hd3 := (hb.block _ (lt_of_heap H2.out.blk)).trans H2.out.blk
    obtain ⟨z0, z1, z2, z3, z4, z5, lz⟩ := six_at hd3
    have ff := free_of_heap hd3
    have HH := Lib.hid (setSv hd3 (.int .i64 (getR M (wd0 ws)).seq) (.string (getR M (wd0 ws)).mark) (.slice q' (sortC (getR M (wd0 ws)).T).length cap') (.int .i64 (getR M (wd0 ws)).lost))
    clear ho hb RC hd3
    go_wp2_with fail
    generalize ((((w3.setCell ⟨db, 2, none⟩ (.int .i64 (getR M (wd0 ws)).seq)).setCell ⟨db, 3, none⟩ (.string (getR M (wd0 ws)).mark)).setCell ⟨db, 4, none⟩ (.slice q' (sortC (getR M (wd0 ws)).T).length cap')).setCell ⟨db, 5, none⟩ (.int .i64 (getR M (wd0 ws)).lost)) = w4 at HH ⊢
    obtain ⟨hw4, hg4⟩ := HH.out
    obtain ⟨K, st4, h4⟩ := H2.out.save X3.out HO.out (Nat.le_refl _) hg4 hw4
    have H4 := Lib.hid h4
    have S4 := Lib.hid (S2.out.trans st4)
    obtain ⟨c0, c1, c2, c3, c4, c5, lt4⟩ := six_at hw4
    clear hw4 hg4 st4 h4 HH z0 z1 z2 z3 z4 z5 lz ff c0 c1 c3 c4 c5
    go_wp2_with fail
    refine (IT w4 ((G.out.step S4.out).sub (fun i h => h.elim))).mono ?_
    rintro _ w5 ⟨rfl, hx⟩
    have X5 := Lib.hid hx
    clear hx IT
    go_wp2_with fail
    go_ret
    exact .of (H4.out.ext X5.out) (by omega) (S4.out.trans (.of_ext _ X5.out)) rfl
end Go.Proofs.YtnkmckdefiblhaaGreatDoor
