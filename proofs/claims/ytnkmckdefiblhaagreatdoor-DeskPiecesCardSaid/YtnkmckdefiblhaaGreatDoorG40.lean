/- desk.fresh (the walk). · desk: read (the walk). · The desk: a line's words, and what its first word does. -/
import Derived.Test.YtnkmckdefiblhaaGreatDoorProg
import Derived.Test.YtnkmckdefiblhaaGreatDoorG31
import Derived.Test.YtnkmckdefiblhaaGreatDoorG34
import Derived.Test.YtnkmckdefiblhaaGreatDoorG35
import Derived.Test.YtnkmckdefiblhaaGreatDoorG37
import Derived.Test.YtnkmckdefiblhaaGreatDoorG38
import Derived.Test.YtnkmckdefiblhaaGreatDoorG39
namespace Go.Proofs.YtnkmckdefiblhaaGreatDoor
open Go.RowKit Go.Shelf

/-- The parts of a desk that is new. -/
def own0 (db mb : Nat) (F : Blk) : Lab → Blk
  | .d => fun i => i = db
  | .m => fun i => i = mb
  | .f => F
  | .k => none0
  | .r _ => none0
theorem own0_parts {w w' : World} {db mb : Nat} {F : Blk} (hd : db < w.heap.size) (hm : w.heap.size ≤ mb) (hm2 : mb < w'.heap.size) (hF : ∀ i, F i → w.heap.size ≤ i ∧ i < mb) : parts w' (own0 db mb F) := by
  refine ⟨fun a b hab i h1 h2 => ?_, fun a i hi => ?_⟩
  · cases a <;> cases b <;> first
      | exact hab rfl
      | exact h1.elim
      | exact h2.elim
      | (simp only [own0] at h1 h2; first
          | omega
          | (have := hF _ h1; omega)
          | (have := hF _ h2; omega))
  · cases a <;> first
      | exact hi.elim
      | (simp only [own0] at hi; first
          | omega
          | (have := hF _ hi; omega))
def FreshPost (x : ByteArray) (w : World) (db : Nat) (e : Ending) (w' : World) : Prop :=
  e = .returned (.string ⟨#[110, 101, 119]⟩) ∧ ∃ A', dkIn w' A' db 0 (newM x) ∧ step w w' (fun i => i = db) A'
theorem set6 {w : World} {b : Nat} {v0 v1 v2 v3 v4 v5 : Value} {t : TypeId} (h : w.heap[b]? = some (.cells #[v0, v1, v2, v3, v4, v5] t (0, 0))) (x0 x1 x2 x3 x4 x5 : Value) :
    ((((((w.setCell ⟨b, 0, none⟩ x0).setCell ⟨b, 1, none⟩ x1).setCell ⟨b, 2, none⟩ x2).setCell ⟨b, 3, none⟩ x3).setCell ⟨b, 4, none⟩ x4).setCell ⟨b, 5, none⟩ x5).heap[b]? = some (.cells #[x0, x1, x2, x3, x4, x5] t (0, 0)) ∧
    w.grownBy ((((((w.setCell ⟨b, 0, none⟩ x0).setCell ⟨b, 1, none⟩ x1).setCell ⟨b, 2, none⟩ x2).setCell ⟨b, 3, none⟩ x3).setCell ⟨b, 4, none⟩ x4).setCell ⟨b, 5, none⟩ x5) (some b) ∧
    ((((((w.setCell ⟨b, 0, none⟩ x0).setCell ⟨b, 1, none⟩ x1).setCell ⟨b, 2, none⟩ x2).setCell ⟨b, 3, none⟩ x3).setCell ⟨b, 4, none⟩ x4).setCell ⟨b, 5, none⟩ x5).heap.size = w.heap.size :=
  ⟨heap_setCell (heap_setCell (heap_setCell (heap_setCell (heap_setCell (heap_setCell h _) _) _) _) _) _, (((((grown_setCell _ _ _ _).trans (grown_setCell _ _ _ _)).trans (grown_setCell _ _ _ _)).trans (grown_setCell _ _ _ _)).trans (grown_setCell _ _ _ _)).trans (grown_setCell _ _ _ _), by simp [World.setCell]⟩
theorem fresh_at {w w4 w5 : World} {db sb vb : Nat} {V F : Blk} {x : ByteArray} (hd : db < w.heap.size) (hs : srcIn w4 V F sb vb 0 (mkS (markB 100 [x])) S0) (h4 : step w w4 none0 F)
    (hb : w5.heap[db]? = some (.cells #[.pointer (some ⟨sb, 0, none⟩), .map (some w4.heap.size), .int .i64 0, .string ⟨#[]⟩, .slice none 0 0, .int .i64 0] 31 (0, 0))) (hg : w4.grownBy w5 (some db)) (hsz : w5.heap.size = w4.heap.size) :
    ∃ A', dkIn (w5.alloc (.map #[] 0)) A' db 0 (newM x) ∧ step w (w5.alloc (.map #[] 0)) (fun i => i = db) A' := by
  have hF : ∀ i, F i → w.heap.size ≤ i ∧ i < w4.heap.size := fun i hi => h4.new hi
  have hx : ∃ x, w5.alloc (.map #[] 0) = ext w5 x := ext_alloc _ (ext_refl w5)
  have hbx := ext_iff.1 hx
  have hdF : ∀ i, F i → i ≠ db := fun i hi e => by have := hF i hi; omega
  have hprt : parts (w5.alloc (.map #[] 0)) (own0 db w4.heap.size F) := own0_parts hd h4.size (by simp; omega) hF
  refine ⟨whole (own0 db w4.heap.size F), ⟨own0 db w4.heap.size F, sb, vb, w4.heap.size, V, fun _ => 0, none, 0, ⟨hprt, rfl, (hbx.block _ (lt_of_heap hb)).trans hb, .inl rfl, (fun g hg => by cases hg), ?_, rfl, ⟨[], ?_, fun s => rfl⟩, fun s R hR => by cases hR⟩, rfl⟩, ?_⟩
  · refine hs.same (fun i hi => ?_) (Nat.le_trans hg.size hbx.size)
    have hi5 := (hF i hi).2
    exact (hbx.block i (by omega)).trans (hg.block i hi5 (fun e => hdF i hi (by injection e)))
  · have := mapS.made (α := Option Nat) (dat := datF) (R := RP) w5
    rwa [hsz] at this
  · have s1 : step w w4 (fun i => i = db) (fun i => i = db) := ⟨h4.os, h4.tape, h4.output, h4.size, fun i hi _ => h4.block i hi (fun h => h), fun i hi => .inl hi⟩
    have s2 : step w4 w5 (fun i => i = db) (fun i => i = db) := .of_grown hg (fun j e => by cases e; rfl)
    refine ((s1.trans s2).trans (.of_ext _ hx)).more (fun i hi => ?_)
    obtain ⟨a, ha⟩ := hi
    cases a
    · exact .inl ha
    · refine .inr ?_
      have ha : i = w4.heap.size := ha
      subst ha
      have := h4.size
      simp; omega
    · refine .inr ?_
      have := hF i ha
      have := hbx.size
      omega
    · exact ha.elim
    · exact ha.elim
set_option maxRecDepth 100000 in
set_option maxHeartbeats 8000000 in
theorem fresh_raw (p : Option Addr) (ws : List ByteArray) (cap : Nat) (w : World) (db : Nat) (v0 v1 v2 v3 v4 v5 : Value) (hb : w.heap[db]? = some (.cells #[v0, v1, v2, v3, v4, v5] 31 (0, 0))) (hG : GlobD w (fun i => i = db)) (hw : wordsAt w (fun i => i = db) p ws) (hsw : smallW ws) (hl : ws.length = 1) :
    Calls Tryz.prog 5 #[.pointer (some ⟨db, 0, none⟩), .slice p ws.length cap] w (FreshPost (wd0 ws) w db) := by
  have WD := dwords_any p ws.length cap 1 w hG.glob.err
  have hli := Lib.hid (show (ws.length : Int) = 1 by omega)
  have hpos : 0 < ws.length := by omega
  obtain ⟨g, o, rfl, hg, hc⟩ := words_one hw (by omega)
  have hsz := wd0_size hsw
  have G := Lib.hid hG
  have HB := Lib.hid hb
  have LT := Lib.hid (lt_of_heap hb)
  clear hl hw hsw hG hb
  generalize wd0 ws = x at *
  have hml : (markMsg 100 [x]).length ≤ 140737488355000 := by
    unfold markMsg
    show (markTo 100 [x] 1).length ≤ _
    simp only [markTo, List.length_append, List.length_singleton, List.getD_cons_zero]
    rw [show (numB ((x.size : Nat) : Int)).length = 8 from numTo_length _ _, Array.length_toList]
    show 1 + (8 + x.size) ≤ _
    omega
  have MK := fun w q c ht hR => mark_any 100 100 rfl q [x] 1 rfl c w ht hml hR
  have hms : (mkS (markB 100 [x])).size = 16 := by rw [mkS_size, markB_length]
  have SN := fun w => snew_any (mkS (markB 100 [x])) w hms
  have HM : (⟨(markB 100 [x]).toArray⟩ : ByteArray) = mkS (markB 100 [x]) := rfl
  rw [HM] at MK
  have FA := Lib.hid fun w4 w5 sb vb V F (hs : srcIn w4 V F sb vb 0 (mkS (markB 100 [x])) S0) => fresh_at (w := w) (w4 := w4) (w5 := w5) (x := x) LT.out hs
  generalize mkS (markB 100 [x]) = sec at *
  clear HM hml hms
  go_enter Tryz.func5, Tryz.ntmps5
  go_wp2_with fail
  refine WD.mono ?_
  rintro e w1 ⟨he, _, hx⟩
  obtain rfl := he hli.out
  have X := Lib.hid hx
  have e0 : w1.cell? ⟨g, o, none⟩ = _ := cell_below (ext_iff.1 hx) hg hc
  have lg1 : g < w1.heap.size := Nat.lt_of_lt_of_le hg (ext_iff.1 hx).size
  clear hx WD he hg hc
  go_wp2_with fail
  have XA := ext_alloc (.cells #[.string x] 9) (ext_refl w1)
  have X2 := Lib.hid (ext_trans X.out XA)
  have TA : textsAt (w1.alloc (.cells #[.string x] 9)) (some ⟨w1.heap.size, 0, none⟩) [x] := by
    intro j s hj
    cases j with
    | zero =>
      injection hj with hj
      subst hj
      exact ⟨_, 0, rfl, by simp, by rw [cell_in, heap_alloc_at]; rfl⟩
    | succ j => simp at hj
  clear XA e0 lg1
  generalize w1.alloc (.cells #[.string x] 9) = w2 at *
  generalize w1.heap.size = b1 at *
  refine (MK w2 _ _ TA (G.out.ext X2.out).glob.rounds).mono ?_
  rintro _ w3 ⟨rfl, hx⟩
  have X3 := Lib.hid (ext_trans X2.out hx)
  clear hx MK TA
  go_wp2_with fail
  refine (SN w3).mono ?_
  rintro _ w4 ⟨sb, vb, V, F, rfl, h1, h2⟩
  have S4 := Lib.hid h1
  have T4 := Lib.hid ((step.of_ext none0 X3.out).trans h2)
  clear h1 h2 SN
  go_wp2_with fail
  refine (must_ok w4).mono ?_
  rintro _ _ ⟨rfl, rfl⟩
  have hb4 := (T4.out.below.block _ LT.out).trans HB.out
  obtain ⟨z0, z1, z2, z3, z4, z5, lz⟩ := six_at hb4
  have ff := free_of_heap hb4
  have HH := Lib.hid (set6 hb4 (.pointer (some ⟨sb, 0, none⟩)) (.map (some w4.heap.size)) (.int .i64 0) (.string ⟨#[]⟩) (.slice none 0 0) (.int .i64 0))
  clear hb4
  have hmk : ∀ w : World, (Instr.makeMap 26 none).run Tryz.prog w = .ok (.map (some w.heap.size)) (w.alloc (.map #[] 0)) := fun w => by simp [Instr.makeMap]
  go_wp2_with fail
  generalize (((((w4.setCell ⟨db, 0, none⟩ (.pointer (some ⟨sb, 0, none⟩))).setCell ⟨db, 1, none⟩ (.map (some w4.heap.size))).setCell ⟨db, 2, none⟩ (.int .i64 0)).setCell ⟨db, 3, none⟩ (.string ⟨#[]⟩)).setCell ⟨db, 4, none⟩ (.slice none 0 0)).setCell ⟨db, 5, none⟩ (.int .i64 0) = w5 at HH ⊢
  obtain ⟨h1, h2, h3⟩ := HH.out
  obtain ⟨A', hd, hs⟩ := FA.out w4 w5 sb vb V F S4.out T4.out h1 h2 h3
  go_ret
  exact ⟨rfl, A', hd, hs⟩
theorem step.widen {w w' : World} {F G A' : Blk} (g : step w w' F A') (h : ∀ i, F i → G i) : step w w' G A' :=
  ⟨g.os, g.tape, g.output, g.size, fun i hi hn => g.block i hi (fun hF => hn (h i hF)), fun i hi => (g.sub i hi).imp (h i) id⟩
set_option maxRecDepth 100000 in
set_option maxHeartbeats 4000000 in
theorem fresh_cmd (p : Option Addr) (ws : List ByteArray) (cap : Nat) (w : World) (A : Blk) (db n : Nat) (M : DkM) (h : cmdIn w A db n M p ws cap) :
    Calls Tryz.prog 5 #[.pointer (some ⟨db, 0, none⟩), .slice p ws.length cap] w (CmdPost (freshA M ws) w A db n) := by
  by_cases hl : ws.length = 1
  case neg =>
    have WD := dwords_any p ws.length cap 1 w h.glob.glob.err
    rw [show freshA M ws = (.er 3, M) from if_neg hl]
    have HP : Hid (∀ w', (∃ x, w' = ext w x) → CmdPost (.er 3, M) w A db n (.panicked (thrown 3)) w') := Lib.hid fun w' hx => .same h.dk hx rfl rfl
    generalize CmdPost (.er 3, M) w A db n = P at HP ⊢
    have hli : (ws.length : Int) ≠ 1 := by omega
    clear h hl
    go_enter Tryz.func5, Tryz.ntmps5
    go_wp2_with fail
    refine WD.mono ?_
    rintro e w1 ⟨_, he, hx⟩
    obtain rfl := he hli
    have X := Lib.hid hx
    clear hx WD he
    go_wp2_with fail
    exact ⟨rfl, HP.out _ X.out⟩
  case pos =>
    rw [show freshA M ws = (.ok ⟨#[110, 101, 119]⟩, newM (wd0 ws)) from if_pos hl]
    obtain ⟨own, sb, vb, mb, V, rb, q, c, H, rfl⟩ := h.dk
    have hsub : ∀ i, i = db → whole own i := fun i e => ⟨.d, e ▸ H.odb⟩
    refine (fresh_raw p ws cap w db _ _ _ _ _ _ H.blk (h.glob.sub hsub) (fun j s hj => ?_) h.small hl).mono ?_
    · obtain ⟨g, o, h1, h2, h3, h4⟩ := h.words j s hj
      exact ⟨g, o, h1, h2, fun e => h3 (hsub g e), h4⟩
    · rintro e w' ⟨rfl, A', h1, h2⟩
      exact ⟨rfl, A', h1.mono (by omega), h2.widen hsub⟩
end Go.Proofs.YtnkmckdefiblhaaGreatDoor
namespace Go.Proofs.YtnkmckdefiblhaaGreatDoor
open Go.RowKit Go.Shelf

theorem setR_setR (M : DkM) (s : ByteArray) (R R' : RdM) : setR (setR M s R) s R' = setR M s R' := by
  have h : updS (updS M.rd s (some R)) s (some R') = updS M.rd s (some R') := by
    funext t
    by_cases e : t = s
    · subst e; rw [updS_same, updS_same]
    · rw [updS_other _ _ e, updS_other _ _ e, updS_other _ _ e]
  show { M with rd := updS (updS M.rd s (some R)) s (some R') } = { M with rd := updS M.rd s (some R') }
  rw [h]
/-- Read at a record of the desk's feed, that is behind or next. -/
theorem read_step {M : DkM} (IV : DkInv M) {nn : Int} {R : RdM} (hR : RdOk M.S.L R) {k : Nat} {r : Rec} {e : Ev} (e1 : M.S.L[k]? = some r) (e2 : M.ok[k]? = some e) (h1 : r.seq ≤ nn) (s : ByteArray)
    (w : World) (own : Lab → Blk) (db m sb vb mb : Nat) (V : Blk) (rb : ByteArray → Nat) (q : Option Addr) (c : Nat) (h : dkAt w own db m (setR M s (readN nn M.S M.ok R k)) sb vb mb V rb q c) (hG : GlobD w (whole own)) (hm : m ≤ 1000000) :
    Calls Tryz.prog 66 #[.pointer (some ⟨rb s, 0, none⟩), .agg (recV r)] w fun x w' => x = .returned .nilIface ∧ ∃ own', dkAt w' own' db (m + 1) (setR M s (readN nn M.S M.ok R (k + 1))) sb vb mb V rb q c ∧ step w w' (whole own) (whole own') := by
  have hk : k < M.S.L.length := (List.getElem?_eq_some_iff.1 e1).1
  have hrs := h.at_ s _ (set_rd M s (readN nn M.S M.ok R k))
  obtain ⟨_, hq, _⟩ := IV.inv.told k r e e1 e2
  rw [readN_succ e1 e2]
  by_cases hlt : ((readN nn M.S M.ok R k).seq : Int) < r.seq
  · obtain ⟨t1, t2, t3, t4⟩ := read_next_facts IV hR hk e1 e2 h1 hlt
    have hone : readOne nn M.S.many M.S.has (readN nn M.S M.ok R k) (r, e) = readM M.S.many M.S.has (readN nn M.S M.ok R k) r e := if_pos ⟨h1, hlt⟩
    rw [hone]
    have hv := h.src.vault
    have hsub : ∀ i, V i ∨ own (.r s) i → whole own i := fun i hi => hi.elim (fun hi => ⟨.f, hv.2 i hi⟩) (fun hi => ⟨.r s, hi⟩)
    have hap : apart V (own (.r s)) := fun i hi => h.prt.ap .f (.r s) (by nofun) i (hv.2 i hi)
    have hsq : (readN nn M.S M.ok R k).seq < 1048576 := by have := (read_facts IV (n := nn) hR k (by omega)).1.sq; have := IV.len; omega
    refine (read_next r e w V (own (.r s)) (rb s) vb m m M.sec M.S.many M.S.has (readN nn M.S M.ok R k) hrs hv.1 (hG.glob.sub hsub) hap t1 t2 t3 t4 (by omega) hsq).mono ?_
    rintro x w' ⟨rfl, D', hr', hst⟩
    have ht := h.turnR (s := s) (n' := m + 1) (by omega) (set_rd M s _) hr' hst
    rw [setR_setR] at ht
    exact ⟨rfl, _, ht, hst.whole⟩
  · have hone : readOne nn M.S.many M.S.has (readN nn M.S M.ok R k) (r, e) = readN nn M.S M.ok R k := if_neg (fun hh => hlt hh.2)
    rw [hone]
    refine (read_old r w (own (.r s)) (rb s) vb m (readN nn M.S M.ok R k) hrs (by omega) (by omega)).mono ?_
    rintro x w' ⟨rfl, hx⟩
    exact ⟨rfl, own, (h.ext hx).mono (by omega), .of_ext _ hx⟩
theorem readN_skip {M : DkM} {nn : Int} {R : RdM} {k : Nat} {r : Rec} {e : Ev} (e1 : M.S.L[k]? = some r) (e2 : M.ok[k]? = some e) (h1 : ¬ r.seq ≤ nn) : readN nn M.S M.ok R (k + 1) = readN nn M.S M.ok R k := by
  rw [readN_succ e1 e2]
  exact if_neg (fun hh => h1 hh.1)
set_option maxRecDepth 100000 in
set_option maxHeartbeats 8000000 in
theorem read_cmd (p : Option Addr) (ws : List ByteArray) (cap : Nat) (w : World) (A : Blk) (db n : Nat) (M : DkM) (h : cmdIn w A db n M p ws cap) :
    Calls Tryz.prog 43 #[.pointer (some ⟨db, 0, none⟩), .slice p ws.length cap] w (CmdPost (readD M ws) w A db n) := by
  have WD := dwords_any p ws.length cap 2 w h.glob.glob.err
  by_cases hl : ws.length = 2
  case neg =>
    rw [show readD M ws = (.er 3, M) from if_neg hl]
    have HP : Hid (∀ w', (∃ x, w' = ext w x) → CmdPost (.er 3, M) w A db n (.panicked (thrown 3)) w') := Lib.hid fun w' hx => .same h.dk hx rfl rfl
    generalize CmdPost (.er 3, M) w A db n = P at HP ⊢
    have hli : (ws.length : Int) ≠ 2 := by omega
    clear h hl
    go_enter Tryz.func43, Tryz.ntmps43
    go_wp2_with fail
    refine WD.mono ?_
    rintro e w1 ⟨_, he, hx⟩
    obtain rfl := he hli
    have X := Lib.hid hx
    clear hx WD he
    go_wp2_with fail
    exact ⟨rfl, HP.out _ X.out⟩
  case pos =>
    have hli := Lib.hid (show (ws.length : Int) = 2 by omega)
    unfold readD
    rw [if_pos hl]
    obtain ⟨own, sb, vb, mb, V, rb, q, c, H, rfl⟩ := h.dk
    have HD := Lib.hid H
    obtain ⟨c0, c1, c2, c3, c4, c5, lt⟩ := six_at H.blk
    have G := Lib.hid h.glob
    have IV := Lib.hid h.inv
    have SMW := Lib.hid h.small
    have hn := h.n_
    have hpos : 1 < ws.length := by omega
    obtain ⟨g, o, rfl, hg, hw0, hw1⟩ := words_two h.words hl
    have NB := fun w hG => number_any (wd1 ws) w (F := whole own) hG (by have := wd1_size SMW.out; omega)
    have HERE := Lib.hid (⟨own, sb, vb, mb, V, rb, q, c, H, rfl⟩ : dkIn w (whole own) db n M)
    have HG := Lib.hid hg
    have HW0 := Lib.hid hw0
    have hs1 := wd0_size SMW.out
    clear h H c0 c1 c2 c3 c4 c5 hl lt hw0
    cases hnr : numR (wd1 ws) with
    | none =>
      dsimp only
      have HP : Hid (∀ w', (∃ x, w' = ext w x) → CmdPost (.er 3, M) w (whole own) db n (.panicked (thrown 3)) w') := Lib.hid fun w' hx => .same HERE.out hx rfl rfl
      generalize CmdPost (.er 3, M) w (whole own) db n = P at HP ⊢
      rw [hnr] at NB
      clear hnr
      go_enter Tryz.func43, Tryz.ntmps43
      go_wp2_with fail
      refine WD.mono ?_
      rintro e w1 ⟨he, _, hx⟩
      obtain rfl := he hli.out
      have X := Lib.hid hx
      have e1 : w1.cell? ⟨g, o + 1, none⟩ = _ := cell_below (ext_iff.1 hx) hg hw1
      have lg1 : g < w1.heap.size := Nat.lt_of_lt_of_le hg (ext_iff.1 hx).size
      clear hx WD he
      go_wp2_with fail
      refine (NB _ (G.out.ext X.out)).mono ?_
      rintro e w2 ⟨_, he, hx⟩
      obtain rfl := he trivial
      have X2 := Lib.hid (ext_trans X.out hx)
      clear hx NB he
      go_wp2_with fail
      exact ⟨rfl, HP.out _ X2.out⟩
    | some nn =>
      dsimp only
      have hnb := numR_bounds hnr
      rw [hnr] at NB
      clear hnr
      generalize hs0 : wd0 ws = s at *
      have hRO := Lib.hid (IV.out.get s)
      generalize hR0 : getR M s = R0 at *
      have HR0 := Lib.hid hR0
      clear hs0 hR0
      have hLL := IV.out.len
      have hsqE := (read_facts IV.out (n := nn) hRO.out M.S.L.length (Nat.le_refl _)).1.sq
      have IT := fun w3 hG => itoa_any ((readN nn M.S M.ok R0 M.S.L.length).seq : Nat) w3 (F := none0) hG (by omega) (by omega)
      have his := itoa_size ((readN nn M.S M.ok R0 M.S.L.length).seq : Nat) (by omega) (by omega)
      go_enter Tryz.func43, Tryz.ntmps43
      go_wp2_with fail
      refine WD.mono ?_
      rintro e w1 ⟨he, _, hx⟩
      obtain rfl := he hli.out
      have X := Lib.hid hx
      have e1 : w1.cell? ⟨g, o + 1, none⟩ = _ := cell_below (ext_iff.1 hx) hg hw1
      have lg1 : g < w1.heap.size := Nat.lt_of_lt_of_le hg (ext_iff.1 hx).size
      clear hx WD he hw1 hg
      go_wp2_with fail
      refine (NB _ (G.out.ext X.out)).mono ?_
      rintro e w2 ⟨he, _, hx⟩
      obtain rfl := he nn rfl
      have X2 := Lib.hid (ext_trans X.out hx)
      have e0 : w2.cell? ⟨g, o, none⟩ = _ := cell_below (ext_iff.1 X2.out) HG.out HW0.out
      have lg2 : g < w2.heap.size := Nat.lt_of_lt_of_le HG.out (ext_iff.1 X2.out).size
      have RD := reader_any s w2 own db n M sb vb mb V rb q c (HD.out.ext X2.out) (by omega) (by omega)
      unfold ReaderPost at RD
      rw [HR0.out] at RD
      clear hx NB he e1 lg1
      go_wp2_with fail
      refine RD.mono ?_
      rintro _ w3 ⟨own3, rb3, rfl, h3, st3⟩
      have H3 := Lib.hid h3
      have S3 := Lib.hid ((step.of_ext (whole own) X2.out).trans st3)
      have SF := sfeed_any w3 V (own3 .f) sb vb (n + 1) M.sec M.S h3.src
      obtain ⟨d0, d1, d2, d3, d4, d5, lt3⟩ := six_at h3.blk
      clear h3 st3 RD e0 lg2 d1 d2 d3 d4 d5
      go_wp2_with fail
      refine SF.mono ?_
      rintro _ w4 ⟨v, rfl, ho, hb⟩
      obtain ⟨q', cap', rfl⟩ := ownsRl_shape ho
      have RA := Lib.hid (recsAt_owned ho)
      have X4 := Lib.hid (ext_of hb)
      have H4 := Lib.hid (H3.out.ext X4.out)
      have QN : Hid (∀ a, q' = some a → a.block < w4.heap.size ∧ ¬ whole own3 a.block) := Lib.hid fun a ha => by
        subst ha
        obtain ⟨h1, h2⟩ := ho.base (g := a.block) rfl
        exact ⟨h2, fun hh => by have := H3.out.prt.wlt _ hh; omega⟩
      have S4 := Lib.hid (S3.out.trans (.of_ext _ X4.out))
      clear ho hb SF d0 lt3
      go_wp2_with fail
      go_loopw [28] (fun iv wr => ∃ (k : Nat) (own5 : Lab → Blk), k ≤ M.S.L.length ∧ iv = .int .i64 k ∧ Hid (dkAt wr own5 db (n + 1 + k) (setR M s (readN nn M.S M.ok R0 k)) sb vb mb V rb3 q c) ∧ Hid (step w4 wr (whole own3) (whole own5))) (fun iv _ => M.S.L.length - (intOf iv).toNat)
      case atStart => exact ⟨0, own3, Nat.zero_le _, rfl, H4, Lib.hid (.refl _ _)⟩
      case round =>
        obtain ⟨k, own5, hk, rfl, H5, S5⟩ := hrel
        by_cases hlt : k < M.S.L.length
        · have hx0 := List.getElem?_eq_getElem hlt
          have hok : k < M.ok.length := by rw [← IV.out.inv.len]; exact hlt
          have hy0 := List.getElem?_eq_getElem hok
          have hRS : recsAt wr q' M.S.L := recsAt_same RA.out (fun a ha => (S5.out.keep (QN.out a ha).1 (QN.out a ha).2).1) S5.out.size
          obtain ⟨g', o', rfl, f0, f1, f2, f3, f4, lg'⟩ := recsAt_row hRS hx0
          have hlt' : (k : Int) < M.S.L.length := by omega
          have RST := fun hle W own6 h6 hG6 => read_step (nn := nn) IV.out hRO.out hx0 hy0 hle s W own6 db (n + 1 + k) sb vb mb V rb3 q c h6 hG6 (by omega)
          have RSK := fun hle => readN_skip (M := M) (nn := nn) (R := R0) hx0 hy0 hle
          generalize M.S.L[k] = r at *
          clear hx0 hy0 hok hRS
          obtain ⟨rq, ru, rg, rp, rbd⟩ := r
          unfold recV at RST
          dsimp only at RST RSK f0 f1 f2 f3 f4
          replace RST := Lib.hid RST
          replace RSK := Lib.hid RSK
          by_cases hle : rq ≤ nn
          · have hd : decide (rq ≤ nn) = true := decide_eq_true hle
            go_wp2_with fail
            have XA := ext_alloc (.cells #[.int .i64 rq, .string ru, .int .i64 rg, .string rp, .string rbd] 108) (ext_refl wr)
            have H6 := Lib.hid (H5.out.ext XA)
            have S6 := Lib.hid (S5.out.trans (.of_ext _ XA))
            have BK := heap_alloc_at wr (.cells #[.int .i64 rq, .string ru, .int .i64 rg, .string rp, .string rbd] 108)
            obtain ⟨z0, z1, z2, z3, z4⟩ := rec_cells (r := ⟨rq, ru, rg, rp, rbd⟩) BK
            dsimp only at z0 z1 z2 z3 z4
            have lz := lt_of_heap BK
            clear XA BK f0 f1 f2 f3 f4 lg'
            generalize wr.alloc (.cells #[.int .i64 rq, .string ru, .int .i64 rg, .string rp, .string rbd] 108) = w6 at *
            generalize wr.heap.size = xb at *
            have R6 := RST.out hle w6 own5 H6.out (G.out.step (S4.out.trans S6.out))
            clear hle
            refine R6.mono ?_
            rintro _ w7 ⟨rfl, own7, h7, st7⟩
            have H7 := Lib.hid h7
            have S7 := Lib.hid (S6.out.trans st7)
            clear h7 st7 R6 z0 z1 z2 z3 z4 lz
            go_wp2_with fail
            refine (must_ok w7).mono ?_
            rintro _ _ ⟨rfl, rfl⟩
            go_wp2_with fail
            go_roundw
            case rel => exact ⟨k + 1, own7, hlt, by go_num, H7, S7⟩
            case measure => simp [intOf]; omega
          · have hd : decide (rq ≤ nn) = false := decide_eq_false hle
            have hsk := RSK.out (by omega)
            go_wp2_with fail
            have XA := ext_alloc (.cells #[.int .i64 rq, .string ru, .int .i64 rg, .string rp, .string rbd] 108) (ext_refl wr)
            have H6 := Lib.hid (H5.out.ext XA)
            have S6 := Lib.hid (S5.out.trans (.of_ext _ XA))
            have BK := heap_alloc_at wr (.cells #[.int .i64 rq, .string ru, .int .i64 rg, .string rp, .string rbd] 108)
            obtain ⟨z0, z1, z2, z3, z4⟩ := rec_cells (r := ⟨rq, ru, rg, rp, rbd⟩) BK
            dsimp only at z0 z1 z2 z3 z4
            have lz := lt_of_heap BK
            clear XA BK f0 f1 f2 f3 f4 lg'
            generalize wr.alloc (.cells #[.int .i64 rq, .string ru, .int .i64 rg, .string rp, .string rbd] 108) = w6 at *
            generalize wr.heap.size = xb at *
            have H7 := Lib.hid (H6.out.mono (by omega : n + 1 + k ≤ n + 1 + (k + 1)))
            rw [← hsk] at H7
            clear hsk
            go_roundw
            case rel => exact ⟨k + 1, own5, hlt, by go_num, H7, S6⟩
            case measure => simp [intOf]; omega
        · obtain rfl : k = M.S.L.length := by omega
          have RT := rat_any wr (own5 (.r s)) (rb3 s) vb (n + 1 + M.S.L.length) (readN nn M.S M.ok R0 M.S.L.length) (H5.out.at_ _ _ (set_rd _ _ _))
          go_wp2_with fail
          refine RT.mono ?_
          rintro _ w8 ⟨rfl, hx⟩
          have X8 := Lib.hid hx
          have S8 := Lib.hid ((S4.out.trans S5.out).trans (.of_ext _ hx))
          clear hx RT
          go_wp2_with fail
          refine (IT w8 ((G.out.step S8.out).sub (fun i h => h.elim))).mono ?_
          rintro _ w9 ⟨rfl, hx⟩
          have X9 := Lib.hid hx
          clear hx IT
          go_wp2_with fail
          go_ret
          exact .of ((H5.out.ext X8.out).ext X9.out) (by omega) (S8.out.trans (.of_ext _ X9.out)) rfl
end Go.Proofs.YtnkmckdefiblhaaGreatDoor
namespace Go.Proofs.YtnkmckdefiblhaaGreatDoor
open Go.RowKit Go.Shelf

/-! ### Words are not longer than their line -/
def tot (acc : List (Nat × Nat)) : Nat := (acc.map fun x => x.2 - x.1 + 1).sum
theorem tot_snoc (acc : List (Nat × Nat)) (a b : Nat) : tot (acc ++ [(a, b)]) = tot acc + (b - a + 1) := by simp [tot]
def spanI (s : ByteArray) (pos : Nat) (st : Option Nat) (acc : List (Nat × Nat)) : Prop := tot acc ≤ s.size ∧ match st with
  | none => tot acc ≤ pos
  | some a => tot acc ≤ a ∧ a ≤ pos ∧ a < s.size
theorem spans_tot (p : Nat → Bool) (s : ByteArray) : ∀ (f pos : Nat) (st : Option Nat) (acc : List (Nat × Nat)), spanI s pos st acc → tot (Lib.closeSpans s (Lib.spansFromP p s f pos st acc)) ≤ s.size + 1
  | 0, pos, st, acc, h => by
    unfold Lib.spansFromP Lib.closeSpans
    cases st with
    | none => have := h.1; dsimp only; omega
    | some a => have := h.2; dsimp only at this ⊢; rw [tot_snoc]; omega
  | f + 1, pos, st, acc, h => by
    unfold Lib.spansFromP
    by_cases hp : pos < s.size
    · rw [if_pos hp]
      have hw := Lib.width_pos s pos
      cases hsp : p (Utf8.decode s pos).1 with
      | true =>
        rw [if_pos rfl]
        cases st with
        | none => exact spans_tot p s f _ none acc ⟨h.1, by have := h.2; dsimp only at this ⊢; omega⟩
        | some a => exact spans_tot p s f _ none _ (by
            have := h.2
            dsimp only at this
            unfold spanI
            rw [tot_snoc]
            dsimp only
            omega)
      | false =>
        rw [if_neg (by simp)]
        cases st with
        | none => exact spans_tot p s f _ (some pos) acc ⟨h.1, by have := h.2; dsimp only at this ⊢; omega⟩
        | some a => exact spans_tot p s f _ (some a) acc ⟨h.1, by have := h.2; dsimp only at this ⊢; omega⟩
    · rw [if_neg hp]
      unfold Lib.closeSpans
      cases st with
      | none => have := h.1; dsimp only; omega
      | some a => have := h.2; dsimp only at this ⊢; rw [tot_snoc]; omega
def lenW (ws : List ByteArray) : Nat := (ws.map fun x => x.size + 1).sum
theorem lenW_cons (x : ByteArray) (ws : List ByteArray) : lenW (x :: ws) = x.size + 1 + lenW ws := by simp [lenW]
theorem fields_len (p : Nat → Bool) (s : ByteArray) : lenW (Lib.goFieldsP p s) ≤ s.size + 1 := by
  have h := spans_tot p s s.size 0 none [] ⟨Nat.zero_le _, Nat.zero_le _⟩
  unfold Lib.goFieldsP Lib.spansOfP
  generalize Lib.closeSpans s (Lib.spansFromP p s s.size 0 none []) = L at h ⊢
  refine Nat.le_trans ?_ h
  unfold lenW tot
  rw [List.map_map]
  clear h
  induction L with
  | nil => exact Nat.le_refl _
  | cons x L ih =>
    rw [List.map_cons, List.sum_cons, List.map_cons, List.sum_cons]
    have : (s.extract x.1 x.2).size ≤ x.2 - x.1 := by rw [ByteArray.size_extract]; omega
    simp only [Function.comp] at ih ⊢
    omega
theorem smallW_of {ws : List ByteArray} (h : lenW ws ≤ 30000) : smallW ws := by
  refine ⟨?_, ?_, ?_⟩
  · refine Nat.le_trans ?_ h
    clear h
    induction ws with
    | nil => exact Nat.zero_le _
    | cons x ws ih => rw [lenW_cons, List.length_cons]; omega
  · induction ws with
    | nil => intro s hs; cases hs
    | cons x ws ih =>
      rw [lenW_cons] at h
      intro s hs
      rcases List.mem_cons.1 hs with rfl | hs
      · omega
      · exact ih (by omega) s hs
  · refine Nat.le_trans ?_ h
    clear h
    cases ws with
    | nil => exact Nat.zero_le _
    | cons x ws =>
      rw [List.map_cons, Lib.join_cons, lenW_cons, List.length_append, Lib.joinTail_length, Array.length_toList]
      have : ([32] : List UInt8).length * (ws.map (·.data.toList)).length + Lib.lens (ws.map (·.data.toList)) ≤ lenW ws := by
        induction ws with
        | nil => simp [Lib.lens, lenW]
        | cons y ws ih =>
          unfold Lib.lens at ih ⊢
          have e : y.data.toList.length = y.size := by rw [Array.length_toList]; rfl
          have e1 : ([32] : List UInt8).length = 1 := rfl
          rw [e1, Nat.one_mul] at ih ⊢
          rw [lenW_cons, List.map_cons, List.map_cons, List.sum_cons, show (y.data.toList :: ws.map (·.data.toList)).length = (ws.map (·.data.toList)).length + 1 from rfl]
          omega
      have e : x.data.size = x.size := rfl
      omega
/-! ### What the first word does -/
abbrev CmdOk (f : Nat) (D : Cmd) : Prop := (∀ args w, (callFunc f args).run Tryz.prog w = .ok (.enter f args) w) ∧
  ∀ (p : Option Addr) (ws : List ByteArray) (cap : Nat) (w : World) (A : Blk) (db n : Nat) (M : DkM), cmdIn w A db n M p ws cap → Calls Tryz.prog f #[.pointer (some ⟨db, 0, none⟩), .slice p ws.length cap] w (CmdPost (D M ws) w A db n)
noncomputable def cmdC : List (ByteArray × (Nat × Cmd)) := [(⟨#[119, 105, 114, 101]⟩, (48, wireD)), (⟨#[115, 117, 109]⟩, (47, sumD)), (⟨#[115, 117, 98, 106, 101, 99, 116, 115]⟩, (46, subjectsD)), (⟨#[115, 97, 118, 101]⟩, (45, saveD)), (⟨#[114, 111, 119, 115]⟩, (44, rowsD)), (⟨#[114, 101, 97, 100]⟩, (43, readD)), (⟨#[112, 117, 116]⟩, (42, doA putN)), (⟨#[110, 101, 119]⟩, (5, freshA)), (⟨#[108, 111, 115, 116]⟩, (41, lostD)), (⟨#[108, 111, 97, 100]⟩, (40, loadD)), (⟨#[104, 101, 108, 112]⟩, (39, helpD)), (⟨#[103, 111, 110, 101]⟩, (38, doA goneN)), (⟨#[102, 101, 101, 100]⟩, (37, feedD)), (⟨#[100, 101, 108]⟩, (36, doA delN)), (⟨#[99, 101, 108, 108, 115]⟩, (35, cellsD)), (⟨#[98, 108, 111, 99, 107]⟩, (34, blockD))]
theorem cmds_map : cmds = cmdC.map fun p => (p.1, some p.2.1) := rfl
theorem cmdL_map : cmdL = cmdC.map fun p => (p.1, p.2.2) := rfl
theorem findS_map {α β : Type} (g : α → β) (k : ByteArray) : ∀ L : List (ByteArray × α), findS k (L.map fun p => (p.1, g p.2)) = (findS k L).map g
  | [] => rfl
  | p :: L => by
    have ih := findS_map g k L
    unfold findS at ih ⊢
    by_cases h : txt p.1 = txt k
    · rw [List.map_cons, List.find?_cons_of_pos (by simpa using h), List.find?_cons_of_pos (by simpa using h)]; rfl
    · rw [List.map_cons, List.find?_cons_of_neg (by simpa using h), List.find?_cons_of_neg (by simpa using h)]; exact ih
theorem cmdC_ok : ∀ x ∈ cmdC, CmdOk x.2.1 x.2.2 := by
  intro x hx
  unfold cmdC at hx
  simp only [List.mem_cons, List.not_mem_nil, or_false] at hx
  rcases hx with rfl | rfl | rfl | rfl | rfl | rfl | rfl | rfl | rfl | rfl | rfl | rfl | rfl | rfl | rfl | rfl
  · exact ⟨enters_of Tryz.func48 (by kernel_rfl) rfl, wire_cmd⟩
  · exact ⟨enters_of Tryz.func47 (by kernel_rfl) rfl, sum_cmd⟩
  · exact ⟨enters_of Tryz.func46 (by kernel_rfl) rfl, subjects_cmd⟩
  · exact ⟨enters_of Tryz.func45 (by kernel_rfl) rfl, save_cmd⟩
  · exact ⟨enters_of Tryz.func44 (by kernel_rfl) rfl, rows_cmd⟩
  · exact ⟨enters_of Tryz.func43 (by kernel_rfl) rfl, read_cmd⟩
  · exact ⟨enters_of Tryz.func42 (by kernel_rfl) rfl, put_cmd⟩
  · exact ⟨enters_of Tryz.func5 (by kernel_rfl) rfl, fresh_cmd⟩
  · exact ⟨enters_of Tryz.func41 (by kernel_rfl) rfl, lost_cmd⟩
  · exact ⟨enters_of Tryz.func40 (by kernel_rfl) rfl, load_cmd⟩
  · exact ⟨enters_of Tryz.func39 (by kernel_rfl) rfl, help_cmd⟩
  · exact ⟨enters_of Tryz.func38 (by kernel_rfl) rfl, gone_cmd⟩
  · exact ⟨enters_of Tryz.func37 (by kernel_rfl) rfl, feed_cmd⟩
  · exact ⟨enters_of Tryz.func36 (by kernel_rfl) rfl, del_cmd⟩
  · exact ⟨enters_of Tryz.func35 (by kernel_rfl) rfl, cells_cmd⟩
  · exact ⟨enters_of Tryz.func34 (by kernel_rfl) rfl, block_cmd⟩
theorem cmds_cases (k : ByteArray) : (findS k cmds = none ∧ findS k cmdL = none) ∨ ∃ f D, findS k cmds = some (some f) ∧ findS k cmdL = some D ∧ CmdOk f D := by
  rw [cmds_map, cmdL_map, findS_map (fun x : Nat × Cmd => some x.1), findS_map (fun x : Nat × Cmd => x.2)]
  cases h : findS k cmdC with
  | none => exact .inl ⟨rfl, rfl⟩
  | some x =>
    obtain ⟨p, hp, _, rfl⟩ := findS_mem h
    exact .inr ⟨_, _, rfl, rfl, cmdC_ok p hp⟩
end Go.Proofs.YtnkmckdefiblhaaGreatDoor
