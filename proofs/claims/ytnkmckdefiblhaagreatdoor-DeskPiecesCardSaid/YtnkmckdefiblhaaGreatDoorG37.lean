/- desk: wire, feed (the walks). -/
import Derived.Test.YtnkmckdefiblhaaGreatDoorProg
import Derived.Test.YtnkmckdefiblhaaGreatDoorG31
import Derived.Test.YtnkmckdefiblhaaGreatDoorG36
namespace Go.Proofs.YtnkmckdefiblhaaGreatDoor
open Go.RowKit Go.Shelf

theorem writeL_long {r : Rec} (h : fitB r = true) : 16 ≤ (writeL mkB r).length ∧ (writeL mkB r).length ≤ 1000 := by
  have hf := fits_of h
  unfold fits at hf
  unfold writeL
  simp only [List.length_append, mkB_length, List.length_cons, List.length_nil, bs_length]
  omega
theorem DkInv.fit {M : DkM} (h : DkInv M) {k : Nat} {r : Rec} (e1 : M.S.L[k]? = some r) : fitB r = true ∧ (r.subject.size ≤ 1048576 ∧ r.prev.size ≤ 1048576 ∧ r.body.size ≤ 1048576) := by
  have hk : k < M.S.L.length := (List.getElem?_eq_some_iff.1 e1).1
  have hok : k < M.ok.length := by rw [← h.inv.len]; exact hk
  obtain ⟨ht, hq, hp, hg, _⟩ := h.inv.told k r _ e1 (List.getElem?_eq_getElem hok)
  have hL := h.len
  have hc := h.inv.cnt r.subject
  obtain ⟨s1, s2, s3⟩ := ht.small
  have hg0 := ht.gen0
  refine ⟨?_, by omega, by omega, by omega⟩
  unfold fitB
  simp only [Bool.and_eq_true, decide_eq_true_eq]
  exact ⟨⟨⟨⟨⟨⟨by omega, by omega⟩, ht.name⟩, hg0⟩, by omega⟩, by omega⟩, by omega⟩
set_option maxRecDepth 100000 in
set_option maxHeartbeats 4000000 in
theorem wire_cmd (p : Option Addr) (ws : List ByteArray) (cap : Nat) (w : World) (A : Blk) (db n : Nat) (M : DkM) (h : cmdIn w A db n M p ws cap) :
    Calls Tryz.prog 48 #[.pointer (some ⟨db, 0, none⟩), .slice p ws.length cap] w (CmdPost (wireD M ws) w A db n) := by
  have WD := dwords_any p ws.length cap 1 w h.glob.glob.err
  by_cases hl : ws.length = 1
  case neg =>
    rw [show wireD M ws = (.er 3, M) from if_neg hl]
    have HP : Hid (∀ w', (∃ x, w' = ext w x) → CmdPost (.er 3, M) w A db n (.panicked (thrown 3)) w') := Lib.hid fun w' hx => .same h.dk hx rfl rfl
    generalize CmdPost (.er 3, M) w A db n = P at HP ⊢
    have hli : (ws.length : Int) ≠ 1 := by omega
    clear h hl
    go_enter Tryz.func48, Tryz.ntmps48
    go_wp2_with fail
    refine WD.mono ?_
    rintro e w1 ⟨_, he, hx⟩
    obtain rfl := he hli
    have X := Lib.hid hx
    clear hx WD he
    go_wp2_with fail
    exact ⟨rfl, HP.out _ X.out⟩
  case pos =>
    have hli := Lib.hid (show (ws.length : Int) = 1 by omega)
    unfold wireD
    rw [if_pos hl]
    obtain ⟨own, sb, vb, mb, V, rb, q, c, H, rfl⟩ := h.dk
    have HD := Lib.hid H
    obtain ⟨c0, c1, c2, c3, c4, c5, lt⟩ := six_at H.blk
    have G := Lib.hid h.glob
    have IV := Lib.hid h.inv
    have SMW := Lib.hid h.small
    have hn := h.n_
    have hpos : 0 < ws.length := by omega
    obtain ⟨g, o, rfl, hg, hw⟩ := words_one h.words (by omega)
    have NB := fun w hG => number_any (wd0 ws) w (F := whole own) hG (by have := wd0_size SMW.out; omega)
    have HERE := Lib.hid (⟨own, sb, vb, mb, V, rb, q, c, H, rfl⟩ : dkIn w (whole own) db n M)
    clear h H c1 c2 c3 c4 c5 hl
    cases hnr : numR (wd0 ws) with
    | none =>
      dsimp only
      have HP : Hid (∀ w', (∃ x, w' = ext w x) → CmdPost (.er 3, M) w (whole own) db n (.panicked (thrown 3)) w') := Lib.hid fun w' hx => .same HERE.out hx rfl rfl
      generalize CmdPost (.er 3, M) w (whole own) db n = P at HP ⊢
      rw [hnr] at NB
      clear hnr
      go_enter Tryz.func48, Tryz.ntmps48
      go_wp2_with fail
      refine WD.mono ?_
      rintro e w1 ⟨he, _, hx⟩
      obtain rfl := he hli.out
      have X := Lib.hid hx
      have e0 : w1.cell? ⟨g, o, none⟩ = _ := cell_below (ext_iff.1 hx) hg hw
      have lg1 : g < w1.heap.size := Nat.lt_of_lt_of_le hg (ext_iff.1 hx).size
      clear hx WD he
      go_wp2_with fail
      refine (NB _ (G.out.ext X.out)).mono ?_
      rintro e w2 ⟨_, he, hx⟩
      obtain rfl := he trivial
      have X2 := Lib.hid (ext_trans X.out hx)
      clear hx NB he
      go_wp2_with fail
      exact ⟨rfl, HP.out _ X2.out⟩
    | some nn =>
      dsimp only
      have hnb := numR_bounds hnr
      have HNR := Lib.hid hnr
      rw [hnr] at NB
      clear hnr
      have SF := fun W (hx : ∃ x, W = ext w x) => sfeed_any W V (own .f) sb vb n M.sec M.S (HD.out.ext hx).src
      have SF := Lib.hid SF
      by_cases hc : 1 ≤ nn ∧ nn ≤ M.S.L.length
      case neg =>
        rw [if_neg hc]
        have HP : Hid (∀ w', (∃ x, w' = ext w x) → CmdPost (.er 7, M) w (whole own) db n (.panicked (thrown 7)) w') := Lib.hid fun w' hx => .same HERE.out hx rfl rfl
        generalize CmdPost (.er 7, M) w (whole own) db n = P at HP ⊢
        have MB := fun w hE => must_bad 7 w hE
        unfold errV at MB
        have HC := Lib.hid hc
        clear hc
        go_enter Tryz.func48, Tryz.ntmps48
        go_wp2_with fail
        refine WD.mono ?_
        rintro e w1 ⟨he, _, hx⟩
        obtain rfl := he hli.out
        have X := Lib.hid hx
        have e0 : w1.cell? ⟨g, o, none⟩ = _ := cell_below (ext_iff.1 hx) hg hw
        have lg1 : g < w1.heap.size := Nat.lt_of_lt_of_le hg (ext_iff.1 hx).size
        clear hx WD he
        go_wp2_with fail
        refine (NB _ (G.out.ext X.out)).mono ?_
        rintro e w2 ⟨he, _, hx⟩
        obtain rfl := he nn rfl
        have X2 := Lib.hid (ext_trans X.out hx)
        have d0 : w2.cell? ⟨db, 0, none⟩ = _ := cell_below (ext_iff.1 X2.out) lt c0
        have lt2 : db < w2.heap.size := Nat.lt_of_lt_of_le lt (ext_iff.1 X2.out).size
        clear hx NB he e0 lg1
        go_wp2_with fail
        refine (SF.out _ X2.out).mono ?_
        rintro _ w3 ⟨v, rfl, ho, hb⟩
        obtain ⟨q', cap', rfl⟩ := ownsRl_shape ho
        have X3 := Lib.hid (ext_trans X2.out (ext_of hb))
        clear ho hb d0 lt2
        by_cases h1 : nn < 1
        · have hd : decide (nn < 1) = true := decide_eq_true h1
          go_wp2_with fail
          refine (MB _ (G.out.ext X3.out).glob.err).mono ?_
          rintro _ w4 ⟨rfl, hx⟩
          have X4 := Lib.hid (ext_trans X3.out hx)
          clear hx MB
          go_wp2_with fail
          exact ⟨rfl, HP.out _ X4.out⟩
        · have h2 : (M.S.L.length : Int) < nn := by have := HC.out; omega
          have hd : decide (nn < 1) = false := decide_eq_false h1
          go_wp2_with fail
          refine (MB _ (G.out.ext X3.out).glob.err).mono ?_
          rintro _ w4 ⟨rfl, hx⟩
          have X4 := Lib.hid (ext_trans X3.out hx)
          clear hx MB
          go_wp2_with fail
          exact ⟨rfl, HP.out _ X4.out⟩
      case pos =>
        rw [if_pos hc]
        obtain ⟨k, rfl⟩ : ∃ k : Nat, nn = (k : Int) + 1 := ⟨(nn - 1).toNat, by omega⟩
        have hk : k < M.S.L.length := by omega
        have hx0 := List.getElem?_eq_getElem hk
        obtain ⟨hfit, hsz⟩ := IV.out.fit hx0
        have hgd : M.S.L.getD ((k : Int) + 1 - 1).toNat zeroR = M.S.L[k] := by
          rw [show ((k : Int) + 1 - 1).toNat = k by omega, List.getD_eq_getElem?_getD, hx0]; rfl
        rw [hgd]
        obtain ⟨hl1, hl2⟩ := writeL_long hfit
        generalize hr : M.S.L[k] = r at *
        have WW := fun w hR => wwrite_any r w hsz hR
        rw [if_pos hfit] at WW
        have HXX := fun w => hexT_any (writeL mkB r) w (by omega)
        have hhs : (hexT (writeL mkB r)).size ≤ 2000 := by rw [hexT_size]; omega
        have HP : Hid (∀ w', (∃ x, w' = ext w x) → CmdPost (.ok (⟨#[119, 105, 114, 101, 32]⟩ ++ hexT (writeL mkB r)), M) w (whole own) db n (.returned (.string (⟨#[119, 105, 114, 101, 32]⟩ ++ hexT (writeL mkB r)))) w') := Lib.hid fun w' hx => .same HERE.out hx rfl rfl
        generalize CmdPost (.ok (⟨#[119, 105, 114, 101, 32]⟩ ++ hexT (writeL mkB r)), M) w (whole own) db n = P at HP ⊢
        generalize hexT (writeL mkB r) = hx1 at *
        generalize (⟨(writeL mkB r).toArray⟩ : ByteArray) = xt at *
        have HX0 := Lib.hid hx0
        obtain ⟨rq, ru, rg, rp, rbd⟩ := r
        unfold recV at WW
        dsimp only at WW hsz
        have hk' : (k : Int) < M.S.L.length := by omega
        clear hc hr hgd hfit hl1 hl2 hx0
        go_enter Tryz.func48, Tryz.ntmps48
        go_wp2_with fail
        refine WD.mono ?_
        rintro e w1 ⟨he, _, hx⟩
        obtain rfl := he hli.out
        have X := Lib.hid hx
        have e0 : w1.cell? ⟨g, o, none⟩ = _ := cell_below (ext_iff.1 hx) hg hw
        have lg1 : g < w1.heap.size := Nat.lt_of_lt_of_le hg (ext_iff.1 hx).size
        clear hx WD he
        go_wp2_with fail
        refine (NB _ (G.out.ext X.out)).mono ?_
        rintro e w2 ⟨he, _, hx⟩
        obtain rfl := he _ rfl
        have X2 := Lib.hid (ext_trans X.out hx)
        have d0 : w2.cell? ⟨db, 0, none⟩ = _ := cell_below (ext_iff.1 X2.out) lt c0
        have lt2 : db < w2.heap.size := Nat.lt_of_lt_of_le lt (ext_iff.1 X2.out).size
        clear hx NB he e0 lg1
        go_wp2_with fail
        refine (SF.out _ X2.out).mono ?_
        rintro _ w3 ⟨v, rfl, ho, hb⟩
        obtain ⟨q', cap', rfl⟩ := ownsRl_shape ho
        obtain ⟨g', o', rfl, f0, f1, f2, f3, f4, lg'⟩ := recsAt_row (recsAt_owned ho) HX0.out
        dsimp only at f0 f1 f2 f3 f4
        have X3 := Lib.hid (ext_trans X2.out (ext_of hb))
        clear ho hb d0 lt2
        go_wp2_with fail
        refine (WW _ (G.out.ext X3.out).glob.rounds).mono ?_
        rintro _ w4 ⟨rfl, hx⟩
        have X4 := Lib.hid (ext_trans X3.out hx)
        clear hx WW f0 f1 f2 f3 f4
        go_wp2_with fail
        refine (must_ok w4).mono ?_
        rintro _ _ ⟨rfl, rfl⟩
        go_wp2_with fail
        refine (HXX _).mono ?_
        rintro _ w5 ⟨rfl, hx⟩
        have X5 := Lib.hid (ext_trans X4.out hx)
        clear hx HXX
        go_wp2_with fail
        exact HP.out _ X5.out
theorem feedOne_size (r : Rec) : (feedOne r).size ≤ 9 := by
  unfold feedOne
  rw [app_size, hexT_size, List.length_take]
  have : bl1.size = 1 := rfl
  omega
theorem feedT_take (L : List Rec) (k : Nat) (r : Rec) (h : L[k]? = some r) : feedT (L.take (k + 1)) = feedT (L.take k) ++ feedOne r := by
  unfold feedT
  rw [List.take_add_one, h, Option.toList_some, List.foldl_append]; rfl
theorem feed_size (s : ByteArray) (L : List Rec) : (L.foldl (fun s r => s ++ feedOne r) s).size ≤ s.size + 9 * L.length := by
  induction L generalizing s with
  | nil => simp
  | cons r L ih =>
    have h1 := ih (s ++ feedOne r)
    have h2 := feedOne_size r
    rw [app_size] at h1
    rw [List.foldl_cons, List.length_cons]
    omega
theorem DkInv.fits {M : DkM} (h : DkInv M) : ∀ r ∈ M.S.L, fitB r = true := fun r hr => by
  obtain ⟨k, hk, rfl⟩ := List.getElem_of_mem hr
  exact (h.fit (List.getElem?_eq_getElem hk)).1
set_option maxRecDepth 100000 in
set_option maxHeartbeats 4000000 in
theorem feed_cmd (p : Option Addr) (ws : List ByteArray) (cap : Nat) (w : World) (A : Blk) (db n : Nat) (M : DkM) (h : cmdIn w A db n M p ws cap) :
    Calls Tryz.prog 37 #[.pointer (some ⟨db, 0, none⟩), .slice p ws.length cap] w (CmdPost (feedD M ws) w A db n) := by
  have WD := dwords_any p ws.length cap 0 w h.glob.glob.err
  by_cases hl : ws.length = 0
  case neg =>
    rw [show feedD M ws = (.er 3, M) from if_neg hl]
    have HP : Hid (∀ w', (∃ x, w' = ext w x) → CmdPost (.er 3, M) w A db n (.panicked (thrown 3)) w') := Lib.hid fun w' hx => .same h.dk hx rfl rfl
    generalize CmdPost (.er 3, M) w A db n = P at HP ⊢
    have hli : (ws.length : Int) ≠ 0 := by omega
    clear h hl
    go_enter Tryz.func37, Tryz.ntmps37
    go_wp2_with fail
    refine WD.mono ?_
    rintro e w1 ⟨_, he, hx⟩
    obtain rfl := he hli
    have X := Lib.hid hx
    clear hx WD he
    go_wp2_with fail
    exact ⟨rfl, HP.out _ X.out⟩
  case pos =>
    have hli := Lib.hid (show (ws.length : Int) = 0 by omega)
    rw [show feedD M ws = (.ok (feedT M.S.L), M) from if_pos hl]
    have HP : Hid (∀ w', (∃ x, w' = ext w x) → CmdPost (.ok (feedT M.S.L), M) w A db n (.returned (.string (feedT M.S.L))) w') := Lib.hid fun w' hx => .same h.dk hx rfl rfl
    generalize CmdPost (.ok (feedT M.S.L), M) w A db n = P at HP ⊢
    obtain ⟨own, sb, vb, mb, V, rb, q, c, H, rfl⟩ := h.dk
    have HD := Lib.hid H
    obtain ⟨c0, c1, c2, c3, c4, c5, lt⟩ := six_at H.blk
    have G := Lib.hid h.glob
    have IV := Lib.hid h.inv
    have SMW := Lib.hid h.small
    have hn := h.n_
    clear h c1 c2 c3 c4 c5
    clear hl
    go_enter Tryz.func37, Tryz.ntmps37
    go_wp2_with fail
    refine WD.mono ?_
    rintro e w1 ⟨he, _, hx⟩
    obtain rfl := he hli.out
    have X := Lib.hid hx
    clear hx WD he
    have d0 : w1.cell? ⟨db, 0, none⟩ = _ := cell_below (ext_iff.1 X.out) lt c0
    have lt1 : db < w1.heap.size := Nat.lt_of_lt_of_le lt (ext_iff.1 X.out).size
    have SF := sfeed_any w1 V (own .f) sb vb n M.sec M.S (HD.out.ext X.out).src
    have hL := IV.out.len
    go_wp2_with fail
    refine SF.mono ?_
    rintro _ w2 ⟨v, rfl, ho, hb⟩
    obtain ⟨q', cap', rfl⟩ := ownsRl_shape ho
    have RA := Lib.hid (recsAt_owned ho)
    have X2 := Lib.hid (ext_trans X.out (ext_of hb))
    clear ho hb SF d0 lt1 c0 lt
    go_wp2_with fail
    go_loopw [18, 5] (fun iv sv wr => ∃ k : Nat, k ≤ M.S.L.length ∧ iv = .int .i64 k ∧ sv = .string (feedT (M.S.L.take k)) ∧ Hid (∃ x, wr = ext w2 x)) (fun iv _ _ => M.S.L.length - (intOf iv).toNat)
    case atStart => exact ⟨0, Nat.zero_le _, rfl, rfl, Lib.hid (ext_refl _)⟩
    case round =>
      obtain ⟨k, hk, rfl, rfl, XR⟩ := hrel
      by_cases hlt : k < M.S.L.length
      · have hx0 := List.getElem?_eq_getElem hlt
        obtain ⟨hfit, hsz⟩ := IV.out.fit hx0
        obtain ⟨hl1, hl2⟩ := writeL_long hfit
        have hrb := ext_iff.1 XR.out
        obtain ⟨g', o', rfl, f0, f1, f2, f3, f4, lg'⟩ := recsAt_row (recsAt_of RA.out (fun k hk => hrb.block k hk) hrb.size) hx0
        have hts := feedT_take M.S.L k _ hx0
        have hfs := feed_size ⟨#[102, 101, 101, 100]⟩ (M.S.L.take k)
        have hlk : (M.S.L.take k).length = k := by rw [List.length_take]; omega
        rw [hlk] at hfs
        change (feedT (M.S.L.take k)).size ≤ 4 + 9 * k at hfs
        have HTS := Lib.hid hts
        have hlt' : (k : Int) < M.S.L.length := by omega
        unfold feedOne bl1 at HTS
        generalize M.S.L[k] = r at *
        have WW := fun w hR => wwrite_any r w hsz hR
        rw [if_pos hfit] at WW
        have hex : (⟨(writeL mkB r).toArray⟩ : ByteArray).extract 0 4 = ⟨((writeL mkB r).take 4).toArray⟩ := extract_front _ _
        have HXX := fun w => hexT_any ((writeL mkB r).take 4) w (by rw [List.length_take]; omega)
        rw [← hex] at HXX
        have hhs := hexT_size ((writeL mkB r).take 4)
        rw [List.length_take] at hhs
        have hxs : 16 ≤ (⟨(writeL mkB r).toArray⟩ : ByteArray).size := by show 16 ≤ (List.toArray _).size; rw [List.size_toArray]; exact hl1
        generalize hexT ((writeL mkB r).take 4) = hx1 at *
        generalize (⟨(writeL mkB r).toArray⟩ : ByteArray) = xt at *
        generalize hsv : feedT (M.S.L.take k) = sv at HTS hfs
        clear hsv hts hlk hx0 hrb hex hfit hl1 hl2
        obtain ⟨rq, ru, rg, rp, rbd⟩ := r
        unfold recV at WW
        dsimp only at WW hsz f0 f1 f2 f3 f4
        go_wp2_with fail
        have X4 := Lib.hid (ext_alloc (.cells #[.int .i64 rq, .string ru, .int .i64 rg, .string rp, .string rbd] 108) XR.out)
        generalize wr.alloc (.cells #[.int .i64 rq, .string ru, .int .i64 rg, .string rp, .string rbd] 108) = w4 at *
        refine (WW _ (G.out.ext (ext_trans X2.out X4.out)).glob.rounds).mono ?_
        rintro _ w5 ⟨rfl, hx⟩
        have X5 := Lib.hid (ext_trans X4.out hx)
        clear hx WW f0 f1 f2 f3 f4
        go_wp2_with fail
        refine (must_ok w5).mono ?_
        rintro _ _ ⟨rfl, rfl⟩
        go_wp2_with fail
        refine (HXX _).mono ?_
        rintro _ w6 ⟨rfl, hx⟩
        have X6 := Lib.hid (ext_trans X5.out hx)
        clear hx HXX
        go_wp2_with fail
        go_roundw
        case rel => exact ⟨k + 1, hlt, by go_num, by rw [HTS.out], X6⟩
        case measure => simp [intOf]; omega
      · obtain rfl : k = M.S.L.length := by omega
        rw [List.take_length]
        go_wp2_with fail
        exact HP.out _ (ext_trans X2.out XR.out)
end Go.Proofs.YtnkmckdefiblhaaGreatDoor
