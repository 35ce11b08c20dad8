/- desk.reader: a reader by its name (the walk). · desk: help, sum, cells, rows, lost (the walks). -/
import Derived.Test.YtnkmckdefiblhaaGreatDoorProg
import Derived.Test.YtnkmckdefiblhaaGreatDoorG30
namespace Go.Proofs.YtnkmckdefiblhaaGreatDoor
open Go.RowKit Go.Shelf

/-- The desk's struct. -/
theorem six_at {w : World} {b : Nat} {v0 v1 v2 v3 v4 v5 : Value} {t : TypeId} {f : Nat × Nat} (h : w.heap[b]? = some (.cells #[v0, v1, v2, v3, v4, v5] t f)) :
    w.cell? ⟨b, 0, none⟩ = some v0 ∧ w.cell? ⟨b, 1, none⟩ = some v1 ∧ w.cell? ⟨b, 2, none⟩ = some v2 ∧ w.cell? ⟨b, 3, none⟩ = some v3 ∧ w.cell? ⟨b, 4, none⟩ = some v4 ∧ w.cell? ⟨b, 5, none⟩ = some v5 ∧ b < w.heap.size := by
  refine ⟨?_, ?_, ?_, ?_, ?_, ?_, lt_of_heap h⟩ <;> (rw [cell_in, h]; rfl)
def ReaderPost (s : ByteArray) (w : World) (own : Lab → Blk) (db n : Nat) (M : DkM) (sb vb mb : Nat) (V : Blk) (q : Option Addr) (c : Nat) (e : Ending) (w' : World) : Prop :=
  ∃ own' rb', e = .returned (.pointer (some ⟨rb' s, 0, none⟩)) ∧ dkAt w' own' db (n + 1) (setR M s (getR M s)) sb vb mb V rb' q c ∧ step w w' (whole own) (whole own')
theorem dkAt.look {w : World} {own : Lab → Blk} {db n : Nat} {M : DkM} {sb vb mb : Nat} {V : Blk} {rb : ByteArray → Nat} {q : Option Addr} {c : Nat} (h : dkAt w own db n M sb vb mb V rb q c) {s : ByteArray} (hs : s.size ≤ maxLen) :
    (Instr.lookup 26 (.map (some mb)) (.string s) false).run Tryz.prog w = .ok (encP (((M.rd s).map fun _ => some (rb s)).getD none)) w := by
  obtain ⟨P, h1, h2⟩ := h.map
  have := h1.look elemRd Tryz.underlying26 hs
  rwa [h2 s] at this
set_option maxRecDepth 100000 in
set_option maxHeartbeats 4000000 in
theorem reader_any (s : ByteArray) (w : World) (own : Lab → Blk) (db n : Nat) (M : DkM) (sb vb mb : Nat) (V : Blk) (rb : ByteArray → Nat) (q : Option Addr) (c : Nat) (h : dkAt w own db n M sb vb mb V rb q c) (hs : s.size ≤ 1048576) (hn : n ≤ 1000000) :
    Calls Tryz.prog 64 #[.pointer (some ⟨db, 0, none⟩), .string s] w (ReaderPost s w own db n M sb vb mb V q c) := by
  have hsm : s.size ≤ maxLen := by unfold maxLen; omega
  have hlk := h.look hsm
  have H := Lib.hid h
  obtain ⟨c0, c1, c2, c3, c4, c5, lt⟩ := six_at h.blk
  clear c2 c3 c4 c5
  cases hr : M.rd s with
  | some R =>
    have hg : setR M s (getR M s) = M := by unfold getR; rw [hr]; exact setR_same hr
    have HP : Hid (ReaderPost s w own db n M sb vb mb V q c (.returned (.pointer (some ⟨rb s, 0, none⟩))) w) := Lib.hid ⟨own, rb, rfl, by rw [hg]; exact h.mono (by omega), .refl _ _⟩
    rw [hr] at hlk
    simp only [Option.map_some, Option.getD_some, encP] at hlk
    generalize ReaderPost s w own db n M sb vb mb V q c = P at HP ⊢
    generalize rb s = b at *
    clear h H hr hg hsm
    go_enter Tryz.func64, Tryz.ntmps64
    go_wp2_with fail
    exact HP.out
  | none =>
    have SV := svault_any w V (own .f) sb vb n M.sec M.S h.src
    have HR := Lib.hid hr
    rw [hr] at hlk
    simp only [Option.map_none, Option.getD_none, encP] at hlk
    clear h hr
    go_enter Tryz.func64, Tryz.ntmps64
    go_wp2_with fail
    refine SV.mono ?_
    rintro _ _ ⟨rfl, rfl⟩
    go_wp2_with fail
    refine (rnew_any vb w).mono ?_
    rintro _ w1 ⟨b, D, rfl, h1, h2, hx⟩
    have hb := ext_iff.1 hx
    have d0 : w1.cell? ⟨db, 0, none⟩ = _ := cell_below hb lt c0
    have d1 : w1.cell? ⟨db, 1, none⟩ = _ := cell_below hb lt c1
    have lt1 : db < w1.heap.size := Nat.lt_of_lt_of_le lt hb.size
    have MO := must_ok w1
    obtain ⟨w2, hrun, hg, hst, h3⟩ := H.out.putR (n' := n + 1) (s := s) (by omega) (h1.mono (by omega)) h2 hsm (by unfold maxLen; omega)
    have hlk2 := h3.look hsm
    have hrd : (setR M s RD0).rd s = some RD0 := updS_same _ _ _
    rw [hrd, updS_same] at hlk2
    simp only [Option.map_some, Option.getD_some, encP] at hlk2
    have e0 := (six_at h3.blk).2.1
    have lt2 := (six_at h3.blk).2.2.2.2.2.2
    have HP : Hid (ReaderPost s w own db n M sb vb mb V q c (.returned (.pointer (some ⟨b, 0, none⟩))) w2) := Lib.hid ⟨_, updS rb s b, by rw [updS_same], by unfold getR; rw [HR.out]; exact h3, hst⟩
    clear c0 c1 SV hlk h1 h2 hx hb hg hst h3 hrd H HR hsm
    go_wp2_with fail
    refine MO.mono ?_
    rintro _ _ ⟨rfl, rfl⟩
    go_wp2_with fail
    go_ret
    exact HP.out
end Go.Proofs.YtnkmckdefiblhaaGreatDoor
namespace Go.Proofs.YtnkmckdefiblhaaGreatDoor
open Go.RowKit Go.Shelf

theorem hexT_any (l : List UInt8) (w : World) (hl : l.length ≤ 1048576) : Calls Tryz.prog 56 #[.string ⟨l.toArray⟩] w fun e w' => e = .returned (.string (hexT l)) ∧ ∃ x, w' = ext w x :=
  hex_any ⟨l.toArray⟩ w (by show (List.toArray l).size ≤ _; rw [List.size_toArray]; exact hl)
theorem hexT_size (l : List UInt8) : (hexT l).size = 2 * l.length := by
  show (List.toArray _).size = _
  rw [List.size_toArray, hexB_length]
theorem jnT_size {ws : List ByteArray} (h : smallW ws) : (jnT ws).size ≤ 30000 := by
  show (List.toArray _).size ≤ _
  rw [List.size_toArray]; exact h.2.2
theorem words_one {w : World} {A : Blk} {p : Option Addr} {ws : List ByteArray} (h : wordsAt w A p ws) (hl : 1 ≤ ws.length) : ∃ g o, p = some ⟨g, o, none⟩ ∧ g < w.heap.size ∧ w.cell? ⟨g, o, none⟩ = some (.string (wd0 ws)) := by
  cases ws with
  | nil => simp at hl
  | cons x r =>
    obtain ⟨g, o, hp, hg, _, hc⟩ := h 0 x rfl
    exact ⟨g, o, hp, hg, hc⟩
theorem words_two {w : World} {A : Blk} {p : Option Addr} {ws : List ByteArray} (h : wordsAt w A p ws) (hl : ws.length = 2) : ∃ g o, p = some ⟨g, o, none⟩ ∧ g < w.heap.size ∧ w.cell? ⟨g, o, none⟩ = some (.string (wd0 ws)) ∧ w.cell? ⟨g, o + 1, none⟩ = some (.string (wd1 ws)) := by
  match ws, hl with
  | [x, y], _ =>
    obtain ⟨g, o, hp, hg, _, hc⟩ := h 0 x rfl
    obtain ⟨g', o', hp', hg', _, hc'⟩ := h 1 y rfl
    rw [hp] at hp'
    injection hp' with hp'
    injection hp' with e1 e2
    subst e1 e2
    exact ⟨g, o, hp, hg, hc, hc'⟩
theorem wd0_size {ws : List ByteArray} (h : smallW ws) : (wd0 ws).size ≤ 30000 := by
  cases ws with
  | nil => exact Nat.zero_le _
  | cons x r => exact h.2.1 x (List.mem_cons_self ..)
theorem wd1_size {ws : List ByteArray} (h : smallW ws) : (wd1 ws).size ≤ 30000 := by
  match ws, h with
  | [], _ => exact Nat.zero_le _
  | [x], _ => exact Nat.zero_le _
  | x :: y :: r, h => exact h.2.1 y (List.mem_cons_of_mem _ (List.mem_cons_self ..))
theorem DkInv.rows {M : DkM} (h : DkInv M) : (∀ c ∈ sortC M.S.T, cellOk c) ∧ (sortC M.S.T).length ≤ 1000 := by
  refine ⟨fun c hc => cellOk_of (h.inv.own c ((sortC_perm M.S.T).mem_iff.1 hc)).2, ?_⟩
  rw [(sortC_perm M.S.T).length_eq]
  have := h.few
  have := h.len
  omega
theorem DkInv.rrows {M : DkM} (h : DkInv M) (s : ByteArray) : (∀ c ∈ sortC (getR M s).T, cellOk c) ∧ (sortC (getR M s).T).length ≤ 1000 := by
  have hr := h.get s
  refine ⟨fun c hc => cellOk_of (hr.right c ((sortC_perm _).mem_iff.1 hc)), ?_⟩
  rw [(sortC_perm _).length_eq]
  have := hr.few
  have := hr.sq
  have := h.len
  omega
theorem set_rd (M : DkM) (s : ByteArray) (R : RdM) : (setR M s R).rd s = some R := updS_same _ _ _
theorem CmdPost.of {x : Ans × DkM} {w w' : World} {own own' : Lab → Blk} {db n m sb vb mb : Nat} {V : Blk} {rb : ByteArray → Nat} {q : Option Addr} {c : Nat} {e : Ending} (h : dkAt w' own' db m x.2 sb vb mb V rb q c) (hm : m ≤ n + 200) (g : step w w' (whole own) (whole own')) (he : e = ansE x.1) :
    CmdPost x w (whole own) db n e w' := ⟨he, whole own', ⟨own', sb, vb, mb, V, rb, q, c, h.mono hm, rfl⟩, g⟩
set_option maxRecDepth 100000 in
set_option maxHeartbeats 4000000 in
theorem help_cmd (p : Option Addr) (ws : List ByteArray) (cap : Nat) (w : World) (A : Blk) (db n : Nat) (M : DkM) (h : cmdIn w A db n M p ws cap) :
    Calls Tryz.prog 39 #[.pointer (some ⟨db, 0, none⟩), .slice p ws.length cap] w (CmdPost (helpD M ws) w A db n) := by
  have WD := dwords_any p ws.length cap 0 w h.glob.glob.err
  by_cases hl : ws.length = 0
  case neg =>
    rw [show helpD M ws = (.er 3, M) from if_neg hl]
    have HP : Hid (∀ w', (∃ x, w' = ext w x) → CmdPost (.er 3, M) w A db n (.panicked (thrown 3)) w') := Lib.hid fun w' hx => .same h.dk hx rfl rfl
    generalize CmdPost (.er 3, M) w A db n = P at HP ⊢
    have hli : (ws.length : Int) ≠ 0 := by omega
    clear h hl
    go_enter Tryz.func39, Tryz.ntmps39
    go_wp2_with fail
    refine WD.mono ?_
    rintro e w1 ⟨_, he, hx⟩
    obtain rfl := he hli
    have X := Lib.hid hx
    clear hx WD he
    go_wp2_with fail
    exact ⟨rfl, HP.out _ X.out⟩
  case pos =>
    have hli := Lib.hid (show (ws.length : Int) = 0 by omega)
    rw [show helpD M ws = (.ok (helpT), M) from if_pos hl]
    have HP : Hid (∀ w', (∃ x, w' = ext w x) → CmdPost (.ok (helpT), M) w A db n (.returned (.string (helpT))) w') := Lib.hid fun w' hx => .same h.dk hx rfl rfl
    generalize CmdPost (.ok (helpT), M) w A db n = P at HP ⊢
    unfold helpT at HP
    clear h
    clear hl
    go_enter Tryz.func39, Tryz.ntmps39
    go_wp2_with fail
    refine WD.mono ?_
    rintro e w1 ⟨he, _, hx⟩
    obtain rfl := he hli.out
    have X := Lib.hid hx
    clear hx WD he
    go_wp2_with fail
    exact HP.out _ X.out
set_option maxRecDepth 100000 in
set_option maxHeartbeats 4000000 in
theorem sum_cmd (p : Option Addr) (ws : List ByteArray) (cap : Nat) (w : World) (A : Blk) (db n : Nat) (M : DkM) (h : cmdIn w A db n M p ws cap) :
    Calls Tryz.prog 47 #[.pointer (some ⟨db, 0, none⟩), .slice p ws.length cap] w (CmdPost (sumD M ws) w A db n) := by
  have HP : Hid (∀ w', (∃ x, w' = ext w x) → CmdPost (sumD M ws) w A db n (.returned (.string (⟨#[115, 117, 109, 32]⟩ ++ hexT (sumB (jnT ws).data.toList)))) w') := Lib.hid fun w' hx => .same h.dk hx rfl rfl
  generalize CmdPost (sumD M ws) w A db n = P at HP ⊢
  have JN := jn_any p ws cap w h.words.texts h.cap_ h.small.1 (by have := h.small.2.2; omega)
  have hsz := jnT_size h.small
  have G := Lib.hid h.glob.glob
  clear h
  generalize jnT ws = t at *
  have SM := fun w hR => sum_any t w (by omega) hR
  have hsl := sumB_length t.data.toList
  generalize sumB t.data.toList = u at *
  have HX := fun w => hexT_any u w (by omega)
  have hhs := hexT_size u
  generalize hexT u = v at *
  go_enter Tryz.func47, Tryz.ntmps47
  go_wp2_with fail
  refine JN.mono ?_
  rintro _ w1 ⟨rfl, hx⟩
  have X := Lib.hid hx
  clear hx JN
  go_wp2_with fail
  refine (SM _ (G.out.ext X.out).rounds).mono ?_
  rintro _ w2 ⟨rfl, hx⟩
  have X2 := Lib.hid (ext_trans X.out hx)
  clear hx SM X
  go_wp2_with fail
  refine (HX _).mono ?_
  rintro _ w3 ⟨rfl, hx⟩
  have X3 := Lib.hid (ext_trans X2.out hx)
  clear hx HX X2
  go_wp2_with fail
  exact HP.out _ X3.out
set_option maxRecDepth 100000 in
set_option maxHeartbeats 4000000 in
theorem cells_cmd (p : Option Addr) (ws : List ByteArray) (cap : Nat) (w : World) (A : Blk) (db n : Nat) (M : DkM) (h : cmdIn w A db n M p ws cap) :
    Calls Tryz.prog 35 #[.pointer (some ⟨db, 0, none⟩), .slice p ws.length cap] w (CmdPost (cellsD M ws) w A db n) := by
  have WD := dwords_any p ws.length cap 0 w h.glob.glob.err
  by_cases hl : ws.length = 0
  case neg =>
    rw [show cellsD M ws = (.er 3, M) from if_neg hl]
    have HP : Hid (∀ w', (∃ x, w' = ext w x) → CmdPost (.er 3, M) w A db n (.panicked (thrown 3)) w') := Lib.hid fun w' hx => .same h.dk hx rfl rfl
    generalize CmdPost (.er 3, M) w A db n = P at HP ⊢
    have hli : (ws.length : Int) ≠ 0 := by omega
    clear h hl
    go_enter Tryz.func35, Tryz.ntmps35
    go_wp2_with fail
    refine WD.mono ?_
    rintro e w1 ⟨_, he, hx⟩
    obtain rfl := he hli
    have X := Lib.hid hx
    clear hx WD he
    go_wp2_with fail
    exact ⟨rfl, HP.out _ X.out⟩
  case pos =>
    have hli := Lib.hid (show (ws.length : Int) = 0 by omega)
    rw [show cellsD M ws = (.ok (toldT cellsN (sortC M.S.T)), M) from if_pos hl]
    have HP : Hid (∀ w', (∃ x, w' = ext w x) → CmdPost (.ok (toldT cellsN (sortC M.S.T)), M) w A db n (.returned (.string (toldT cellsN (sortC M.S.T)))) w') := Lib.hid fun w' hx => .same h.dk hx rfl rfl
    generalize CmdPost (.ok (toldT cellsN (sortC M.S.T)), M) w A db n = P at HP ⊢
    obtain ⟨own, sb, vb, mb, V, rb, q, c, H, rfl⟩ := h.dk
    have HD := Lib.hid H
    obtain ⟨c0, c1, c2, c3, c4, c5, lt⟩ := six_at H.blk
    have G := Lib.hid h.glob
    have IV := Lib.hid h.inv
    have SMW := Lib.hid h.small
    have hn := h.n_
    clear h c1 c2 c3 c4 c5
    clear hl
    go_enter Tryz.func35, Tryz.ntmps35
    go_wp2_with fail
    refine WD.mono ?_
    rintro e w1 ⟨he, _, hx⟩
    obtain rfl := he hli.out
    have X := Lib.hid hx
    clear hx WD he
    have SC := scells_any w1 V (own .f) sb vb n M.sec M.S (HD.out.ext X.out).src (by omega)
    have d0 : w1.cell? ⟨db, 0, none⟩ = _ := cell_below (ext_iff.1 X.out) lt c0
    have lt1 : db < w1.heap.size := Nat.lt_of_lt_of_le lt (ext_iff.1 X.out).size
    go_wp2_with fail
    refine SC.mono ?_
    rintro _ w2 ⟨v, rfl, ho, _, hb⟩
    obtain ⟨q', cap', rfl⟩ := rows_shape ho
    have ci := (cellsIn_of ho).1
    have X2 := Lib.hid (ext_trans X.out (ext_of hb))
    have TL := told_any cellsN (sortC M.S.T) q' cap' w2 ci (G.out.ext X2.out).glob.maxl IV.out.rows.1 IV.out.rows.2 (by decide)
    clear ho hb ci SC d0
    go_wp2_with fail
    refine TL.mono ?_
    rintro _ w3 ⟨rfl, hx⟩
    have X3 := Lib.hid (ext_trans X2.out hx)
    clear hx TL
    go_wp2_with fail
    exact HP.out _ X3.out
set_option maxRecDepth 100000 in
set_option maxHeartbeats 4000000 in
theorem rows_cmd (p : Option Addr) (ws : List ByteArray) (cap : Nat) (w : World) (A : Blk) (db n : Nat) (M : DkM) (h : cmdIn w A db n M p ws cap) :
    Calls Tryz.prog 44 #[.pointer (some ⟨db, 0, none⟩), .slice p ws.length cap] w (CmdPost (rowsD M ws) w A db n) := by
  have WD := dwords_any p ws.length cap 1 w h.glob.glob.err
  by_cases hl : ws.length = 1
  case neg =>
    rw [show rowsD M ws = (.er 3, M) from if_neg hl]
    have HP : Hid (∀ w', (∃ x, w' = ext w x) → CmdPost (.er 3, M) w A db n (.panicked (thrown 3)) w') := Lib.hid fun w' hx => .same h.dk hx rfl rfl
    generalize CmdPost (.er 3, M) w A db n = P at HP ⊢
    have hli : (ws.length : Int) ≠ 1 := by omega
    clear h hl
    go_enter Tryz.func44, Tryz.ntmps44
    go_wp2_with fail
    refine WD.mono ?_
    rintro e w1 ⟨_, he, hx⟩
    obtain rfl := he hli
    have X := Lib.hid hx
    clear hx WD he
    go_wp2_with fail
    exact ⟨rfl, HP.out _ X.out⟩
  case pos =>
    have hli := Lib.hid (show (ws.length : Int) = 1 by omega)
    rw [show rowsD M ws = (.ok (toldT rowsN (sortC (getR M (wd0 ws)).T)), setR M (wd0 ws) (getR M (wd0 ws))) from if_pos hl]
    obtain ⟨own, sb, vb, mb, V, rb, q, c, H, rfl⟩ := h.dk
    have HD := Lib.hid H
    obtain ⟨c0, c1, c2, c3, c4, c5, lt⟩ := six_at H.blk
    have G := Lib.hid h.glob
    have IV := Lib.hid h.inv
    have SMW := Lib.hid h.small
    have hn := h.n_
    have hpos : 0 < ws.length := by omega
    obtain ⟨g, o, rfl, hg, hw⟩ := words_one h.words (by omega)
    clear h c0 c1 c2 c3 c4 c5
    clear hl
    go_enter Tryz.func44, Tryz.ntmps44
    go_wp2_with fail
    refine WD.mono ?_
    rintro e w1 ⟨he, _, hx⟩
    obtain rfl := he hli.out
    have X := Lib.hid hx
    clear hx WD he
    have hb1 := ext_iff.1 X.out
    have e0 : w1.cell? ⟨g, o, none⟩ = _ := cell_below hb1 hg hw
    have lg1 : g < w1.heap.size := Nat.lt_of_lt_of_le hg hb1.size
    have RD := reader_any (wd0 ws) w1 own db n M sb vb mb V rb q c (HD.out.ext X.out) (by have := wd0_size SMW.out; omega) (by omega)
    clear hb1
    go_wp2_with fail
    refine RD.mono ?_
    rintro _ w2 ⟨own2, rb2, rfl, h2, st2⟩
    have H2 := Lib.hid h2
    have S2 := Lib.hid ((step.of_ext (whole own) X.out).trans st2)
    clear h2 st2 RD e0 lg1
    have RC := rcells_any w2 (own2 (.r (wd0 ws))) (rb2 (wd0 ws)) vb (n + 1) (getR M (wd0 ws)) (H2.out.at_ _ _ (set_rd _ _ _)) (by omega)
    go_wp2_with fail
    refine RC.mono ?_
    rintro _ w3 ⟨v, rfl, ho, _, hb⟩
    obtain ⟨q', cap', rfl⟩ := rows_shape ho
    have ci := (cellsIn_of ho).1
    have X3 := Lib.hid (ext_of hb)
    have TL := told_any rowsN (sortC (getR M (wd0 ws)).T) q' cap' w3 ci ((G.out.step S2.out).ext X3.out).glob.maxl (IV.out.rrows _).1 (IV.out.rrows _).2 (by decide)
    clear ho hb ci RC
    go_wp2_with fail
    refine TL.mono ?_
    rintro _ w4 ⟨rfl, hx⟩
    have X4 := Lib.hid (ext_trans X3.out hx)
    clear hx TL
    go_wp2_with fail
    go_ret
    exact .of (H2.out.ext X4.out) (by omega) (S2.out.trans (.of_ext _ X4.out)) rfl
set_option maxRecDepth 100000 in
set_option maxHeartbeats 4000000 in
theorem lost_cmd (p : Option Addr) (ws : List ByteArray) (cap : Nat) (w : World) (A : Blk) (db n : Nat) (M : DkM) (h : cmdIn w A db n M p ws cap) :
    Calls Tryz.prog 41 #[.pointer (some ⟨db, 0, none⟩), .slice p ws.length cap] w (CmdPost (lostD M ws) w A db n) := by
  have WD := dwords_any p ws.length cap 1 w h.glob.glob.err
  by_cases hl : ws.length = 1
  case neg =>
    rw [show lostD M ws = (.er 3, M) from if_neg hl]
    have HP : Hid (∀ w', (∃ x, w' = ext w x) → CmdPost (.er 3, M) w A db n (.panicked (thrown 3)) w') := Lib.hid fun w' hx => .same h.dk hx rfl rfl
    generalize CmdPost (.er 3, M) w A db n = P at HP ⊢
    have hli : (ws.length : Int) ≠ 1 := by omega
    clear h hl
    go_enter Tryz.func41, Tryz.ntmps41
    go_wp2_with fail
    refine WD.mono ?_
    rintro e w1 ⟨_, he, hx⟩
    obtain rfl := he hli
    have X := Lib.hid hx
    clear hx WD he
    go_wp2_with fail
    exact ⟨rfl, HP.out _ X.out⟩
  case pos =>
    have hli := Lib.hid (show (ws.length : Int) = 1 by omega)
    rw [show lostD M ws = (.ok (⟨#[108, 111, 115, 116, 32]⟩ ++ itoaT ((getR M (wd0 ws)).lost : Nat)), setR M (wd0 ws) (getR M (wd0 ws))) from if_pos hl]
    obtain ⟨own, sb, vb, mb, V, rb, q, c, H, rfl⟩ := h.dk
    have HD := Lib.hid H
    obtain ⟨c0, c1, c2, c3, c4, c5, lt⟩ := six_at H.blk
    have G := Lib.hid h.glob
    have IV := Lib.hid h.inv
    have SMW := Lib.hid h.small
    have hn := h.n_
    have hpos : 0 < ws.length := by omega
    obtain ⟨g, o, rfl, hg, hw⟩ := words_one h.words (by omega)
    clear h c0 c1 c2 c3 c4 c5
    clear hl
    go_enter Tryz.func41, Tryz.ntmps41
    go_wp2_with fail
    refine WD.mono ?_
    rintro e w1 ⟨he, _, hx⟩
    obtain rfl := he hli.out
    have X := Lib.hid hx
    clear hx WD he
    have hb1 := ext_iff.1 X.out
    have e0 : w1.cell? ⟨g, o, none⟩ = _ := cell_below hb1 hg hw
    have lg1 : g < w1.heap.size := Nat.lt_of_lt_of_le hg hb1.size
    have RD := reader_any (wd0 ws) w1 own db n M sb vb mb V rb q c (HD.out.ext X.out) (by have := wd0_size SMW.out; omega) (by omega)
    clear hb1
    go_wp2_with fail
    refine RD.mono ?_
    rintro _ w2 ⟨own2, rb2, rfl, h2, st2⟩
    have H2 := Lib.hid h2
    have S2 := Lib.hid ((step.of_ext (whole own) X.out).trans st2)
    clear h2 st2 RD e0 lg1
    have RC := rlost_any w2 (own2 (.r (wd0 ws))) (rb2 (wd0 ws)) vb (n + 1) (getR M (wd0 ws)) (H2.out.at_ _ _ (set_rd _ _ _))
    have hlo : (getR M (wd0 ws)).lost ≤ 100 := by have h1 := IV.out.get (wd0 ws); have := h1.lost; have := h1.sq; have := IV.out.len; omega
    have IT := itoa_any ((getR M (wd0 ws)).lost : Nat) w2 (G.out.step S2.out) (by omega) (by omega)
    have his := itoa_size ((getR M (wd0 ws)).lost : Nat) (by omega) (by omega)
    go_wp2_with fail
    refine RC.mono ?_
    rintro _ _ ⟨rfl, rfl⟩
    go_wp2_with fail
    refine IT.mono ?_
    rintro _ w3 ⟨rfl, hx⟩
    have X3 := Lib.hid hx
    clear hx IT RC
    go_wp2_with fail
    go_ret
    exact .of (H2.out.ext X3.out) (by omega) (S2.out.trans (.of_ext _ X3.out)) rfl
end Go.Proofs.YtnkmckdefiblhaaGreatDoor
