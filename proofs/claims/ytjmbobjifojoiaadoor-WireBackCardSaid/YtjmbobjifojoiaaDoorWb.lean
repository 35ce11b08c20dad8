/- oubliettekeep.WireBack (the walk). -/
import Derived.Test.YtjmbobjifojoiaaDoorProg
import Derived.Test.YtjmbobjifojoiaaDoorWritten
import Derived.Test.YtjmbobjifojoiaaDoorPick
namespace Go.Proofs.YtjmbobjifojoiaaDoor
open Go.RowKit

theorem answ_good {s : ByteArray} (h : parseOK s = true) : ∃ E : Rec, answP s = .tuple #[.agg (recV E), .nilIface] ∧ fitB E = true ∧ (⟨(writeL mkB E).toArray⟩ : ByteArray) = s :=
  ⟨parseR s, by unfold answP; rw [if_pos h], (parse_good h).2, by rw [← (parse_good h).1]; rfl⟩
theorem answ_no {s : ByteArray} (h : ¬ parseOK s = true) : answP s = .tuple #[.agg (recV zeroR), errV 3] := by unfold answP; rw [if_neg h]
theorem answ_write {r : Rec} (h : fitB r = true) : answP ⟨(writeL mkB r).toArray⟩ = .tuple #[.agg (recV r), .nilIface] := by
  have e := parse_write h
  unfold answP
  change (if parseOK (mkS (writeL mkB r)) = true then Value.tuple #[.agg (recV (parseR (mkS (writeL mkB r)))), .nilIface] else _) = _
  rw [e.1, e.2, if_pos rfl]
theorem answ_cut {r : Rec} (h : fitB r = true) (k : Nat) (hk : k < (⟨(writeL mkB r).toArray⟩ : ByteArray).size) : answP ((⟨(writeL mkB r).toArray⟩ : ByteArray).extract 0 k) = .tuple #[.agg (recV zeroR), errV 3] := by
  have e : (⟨(writeL mkB r).toArray⟩ : ByteArray).extract 0 k = mkS ((writeL mkB r).take k) := cut_front _ _
  refine answ_no ?_
  rw [e, parse_cut h k (by have := mkS_size (writeL mkB r); unfold mkS at this; omega)]
  simp
theorem bytes_app (l : List UInt8) (m : ByteArray) : (⟨l.toArray⟩ : ByteArray) ++ m = mkS (l ++ bs m) := by
  apply ByteArray.ext
  rw [ByteArray.data_append, ← Array.toList_inj]
  simp [mkS, bs]
theorem answ_more {r : Rec} (h : fitB r = true) (more : ByteArray) : answP ((⟨(writeL mkB r).toArray⟩ : ByteArray) ++ more) = if more.toList.isEmpty = true then .tuple #[.agg (recV r), .nilIface] else .tuple #[.agg (recV zeroR), errV 3] := by
  rw [bytes_app]
  have e := parse_more h (bs more)
  unfold answP
  rw [e.1, e.2, ByteArray.toList_eq]
  rfl
theorem writeL_size {r : Rec} (h : fitB r = true) : 16 ≤ (⟨(writeL mkB r).toArray⟩ : ByteArray).size ∧ (⟨(writeL mkB r).toArray⟩ : ByteArray).size ≤ 1000 := by
  have hf := fits_of h
  unfold fits at hf
  have := mkS_size (writeL mkB r)
  unfold mkS at this
  rw [this]
  unfold writeL
  simp only [List.length_append, mkB_length, List.length_cons, List.length_nil, bs_length]
  omega
set_option maxRecDepth 100000 in
set_option maxHeartbeats 4000000 in
theorem wback_any (r : Rec) (s : ByteArray) (cut : Int) (more : ByteArray) (w : World) (hR : Rounds w) :
    Calls Tryd.prog 6 #[.agg (recV r), .string s, .int .i64 cut, .string more] w (Res true w) := by
  have R := Lib.hid hR
  clear hR
  obtain ⟨q, u, g, p, b⟩ := r
  have WW := fun w h1 h2 => wwrite_any ⟨q, u, g, p, b⟩ w h1 h2
  have WR := fun w h => wright_any ⟨q, u, g, p, b⟩ w h
  have AW := Lib.hid (answ_write (r := ⟨q, u, g, p, b⟩))
  have AC := Lib.hid (answ_cut (r := ⟨q, u, g, p, b⟩))
  have AM := Lib.hid (fun h => answ_more (r := ⟨q, u, g, p, b⟩) h more)
  have AS := Lib.hid (writeL_size (r := ⟨q, u, g, p, b⟩))
  unfold recV at WW WR AW AM ⊢
  dsimp only at WW WR AW AM ⊢
  generalize (⟨(writeL mkB ⟨q, u, g, p, b⟩).toArray⟩ : ByteArray) = T at WW AW AC AM AS
  generalize fitB ⟨q, u, g, p, b⟩ = fit at WW WR AW AC AM AS
  go_enter Tryd.func6, Tryd.ntmps6
  cases h0 : decide ((40 : Int) < u.size) with
  | true =>
    go_wp2_with fail
    go_ret
    exact ⟨rfl, ext_alloc _ (ext_refl w)⟩
  | false =>
    cases h1 : decide ((40 : Int) < p.size) with
    | true =>
      go_wp2_with fail
      go_ret
      exact ⟨rfl, ext_alloc _ (ext_refl w)⟩
    | false =>
      cases h2 : decide ((450 : Int) < b.size) with
      | true =>
        go_wp2_with fail
        go_ret
        exact ⟨rfl, ext_alloc _ (ext_refl w)⟩
      | false =>
        cases h3 : decide ((1500 : Int) < s.size) with
        | true =>
          go_wp2_with fail
          go_ret
          exact ⟨rfl, ext_alloc _ (ext_refl w)⟩
        | false =>
          cases h4 : decide ((60 : Int) < more.size) with
          | true =>
            go_wp2_with fail
            go_ret
            exact ⟨rfl, ext_alloc _ (ext_refl w)⟩
          | false =>
            have HZ := Lib.hid (show u.size ≤ 40 ∧ p.size ≤ 40 ∧ b.size ≤ 450 ∧ s.size ≤ 1500 ∧ more.size ≤ 60 from by
              have := of_decide_eq_false h0; have := of_decide_eq_false h1; have := of_decide_eq_false h2; have := of_decide_eq_false h3; have := of_decide_eq_false h4; omega)
            go_wp2_with fail
            clear h0 h1 h2 h3 h4
            have H1 := Lib.hid (heap_alloc_at w (.cells #[.int .i64 q, .string u, .int .i64 g, .string p, .string b] 45))
            have X1 := Lib.hid (ext_alloc (.cells #[.int .i64 q, .string u, .int .i64 g, .string p, .string b] 45) (ext_refl w))
            generalize w.alloc (.cells #[.int .i64 q, .string u, .int .i64 g, .string p, .string b] 45) = w1 at H1 X1 ⊢
            refine (written_any _ (Rounds_ext R.out X1.out)).mono ?_
            rintro _ w2 ⟨rfl, hx⟩
            have H2 := Lib.hid (((ext_iff.1 hx).block _ (lt_of_heap H1.out)).trans H1.out)
            have X2 := Lib.hid (ext_trans X1.out hx)
            clear hx H1 X1
            go_wp2_with fail
            refine (wparse_any s _ (by have := HZ.out; omega) (Rounds_ext R.out X2.out)).mono ?_
            rintro _ w3 ⟨rfl, hx⟩
            have H3 := Lib.hid (((ext_iff.1 hx).block _ (lt_of_heap H2.out)).trans H2.out)
            have X3 := Lib.hid (ext_trans X2.out hx)
            clear hx H2 X2
            by_cases hp : parseOK s = true
            · obtain ⟨E, e1, e2, e3⟩ := answ_good hp
              rw [e1]
              have WX := fun w h1 h2 => wwrite_any E w h1 h2
              rw [e2, if_pos rfl, e3] at WX
              have hf := fits_of e2
              unfold fits at hf
              have HE := Lib.hid (show E.subject.size ≤ 1048576 ∧ E.prev.size ≤ 1048576 ∧ E.body.size ≤ 1048576 from by omega)
              clear hf e1 e2 e3 hp
              obtain ⟨q', u', g', p', b'⟩ := E
              unfold recV at WX ⊢
              dsimp only at WX HE ⊢
              go_wp2_with fail
              have H4 := Lib.hid ((heap_alloc_old w3 (.cells #[.int .i64 q', .string u', .int .i64 g', .string p', .string b'] 45) (lt_of_heap H3.out)).trans H3.out)
              have X4 := Lib.hid (ext_alloc (.cells #[.int .i64 q', .string u', .int .i64 g', .string p', .string b'] 45) X3.out)
              generalize w3.alloc (.cells #[.int .i64 q', .string u', .int .i64 g', .string p', .string b'] 45) = w4 at H4 X4 ⊢
              clear H3 X3
              refine (WX _ HE.out (Rounds_ext R.out X4.out)).mono ?_
              rintro _ w5 ⟨rfl, hx⟩
              have H5 := Lib.hid (((ext_iff.1 hx).block _ (lt_of_heap H4.out)).trans H4.out)
              have X5 := Lib.hid (ext_trans X4.out hx)
              clear hx H4 X4 WX
              have hss : (!(s.toList == s.toList)) = false := by simp
              obtain ⟨c0, c1, c2, c3, c4⟩ := rec_cells (r := ⟨q, u, g, p, b⟩) H5.out
              dsimp only at c0 c1 c2 c3 c4
              have lw5 := lt_of_heap H5.out
              go_wp2_with fail
              refine (WW _ (by have := HZ.out; omega) (Rounds_ext R.out X5.out)).mono ?_
              rintro _ w7 ⟨rfl, hx⟩
              have H7 := Lib.hid (((ext_iff.1 hx).block _ (lt_of_heap H5.out)).trans H5.out)
              have X7 := Lib.hid (ext_trans X5.out hx)
              clear hx H5 X5 WW c0 c1 c2 c3 c4
              cases fit with
              | false =>
                simp only [Bool.false_eq_true, if_false]
                obtain ⟨c0, c1, c2, c3, c4⟩ := rec_cells (r := ⟨q, u, g, p, b⟩) H7.out
                dsimp only at c0 c1 c2 c3 c4
                have lw7 := lt_of_heap H7.out
                go_wp2_with fail
                refine (WR _ (by have := HZ.out; omega)).mono ?_
                rintro _ w8 ⟨rfl, hx⟩
                have X8 := Lib.hid (ext_trans X7.out hx)
                clear hx
                go_wp2_with fail
                go_ret
                exact ⟨rfl, X8.out⟩
              | true =>
                simp only [if_true]
                have hS := AS.out rfl
                have PA := fun w h => wparse_any T w (by omega) h
                rw [AW.out rfl] at PA
                have hkl := pickN_lt cut T.size (by omega)
                have PK := fun w => pick_any cut T.size w (by omega) (by omega) _ rfl
                have PC := fun w h => wparse_any (T.extract 0 (pickN cut T.size)) w (by rw [ByteArray.size_extract]; omega) h
                rw [AC.out rfl _ hkl] at PC
                have hke : (pickN cut T.size : Int) ≤ T.size := by omega
                generalize pickN cut T.size = kc at PK PC hke
                have hmz := HZ.out.2.2.2.2
                have PM := fun w h => wparse_any (T ++ more) w (by rw [ByteArray.size_append]; omega) h
                rw [AM.out rfl] at PM
                clear AM AC AW AS WR hkl
                unfold recV zeroR at PC
                unfold zeroR at PM
                dsimp only at PC PM
                go_wp2_with fail
                refine (PA _ (Rounds_ext R.out X7.out)).mono ?_
                rintro _ w8 ⟨rfl, hx⟩
                have H8 := Lib.hid (((ext_iff.1 hx).block _ (lt_of_heap H7.out)).trans H7.out)
                have X8 := Lib.hid (ext_trans X7.out hx)
                clear hx H7 X7 PA
                obtain ⟨c0, c1, c2, c3, c4⟩ := rec_cells (r := ⟨q, u, g, p, b⟩) H8.out
                dsimp only at c0 c1 c2 c3 c4
                have lw8 := lt_of_heap H8.out
                go_wp2_with fail
                clear c0 c1 c2 c3 c4 lw8
                have X9 := Lib.hid (ext_alloc (.cells #[.int .i64 q, .string u, .int .i64 g, .string p, .string b] 45) X8.out)
                generalize w8.alloc (.cells #[.int .i64 q, .string u, .int .i64 g, .string p, .string b] 45) = w9 at X9 ⊢
                clear X8
                refine (PK _).mono ?_
                rintro _ w10 ⟨rfl, hx⟩
                have X10 := Lib.hid (ext_trans X9.out hx)
                clear hx X9 PK H8
                go_wp2_with fail
                refine (PC _ (Rounds_ext R.out X10.out)).mono ?_
                rintro _ w11 ⟨rfl, hx⟩
                have X11 := Lib.hid (ext_trans X10.out hx)
                clear hx X10 PC
                go_wp2_with fail
                have X12 := Lib.hid (ext_alloc (.cells #[.int .i64 0, .string ⟨#[]⟩, .int .i64 0, .string ⟨#[]⟩, .string ⟨#[]⟩] 45) X11.out)
                generalize w11.alloc (.cells #[.int .i64 0, .string ⟨#[]⟩, .int .i64 0, .string ⟨#[]⟩, .string ⟨#[]⟩] 45) = w12 at X12 ⊢
                clear X11
                have hsm : T.size + more.size ≤ 1099511627776 := by omega
                refine (PM _ (Rounds_ext R.out X12.out)).mono ?_
                rintro _ w13 ⟨rfl, hx⟩
                have X13 := Lib.hid (ext_trans X12.out hx)
                clear hx X12 PM
                cases hme : more.toList.isEmpty with
                | true =>
                  simp only [if_true]
                  go_wp2_with fail
                  go_ret
                  exact ⟨by simp, ext_alloc _ X13.out⟩
                | false =>
                  simp only [Bool.false_eq_true, if_false]
                  go_wp2_with fail
                  go_ret
                  exact ⟨by simp, ext_alloc _ X13.out⟩
            · rw [answ_no hp]
              clear hp
              unfold recV zeroR
              dsimp only
              obtain ⟨c0, c1, c2, c3, c4⟩ := rec_cells (r := ⟨q, u, g, p, b⟩) H3.out
              dsimp only at c0 c1 c2 c3 c4
              have lw3 := lt_of_heap H3.out
              go_wp2_with fail
              have H5 := Lib.hid ((heap_alloc_old w3 (.cells #[.int .i64 0, .string ⟨#[]⟩, .int .i64 0, .string ⟨#[]⟩, .string ⟨#[]⟩] 45) (lt_of_heap H3.out)).trans H3.out)
              have X5 := Lib.hid (ext_alloc (.cells #[.int .i64 0, .string ⟨#[]⟩, .int .i64 0, .string ⟨#[]⟩, .string ⟨#[]⟩] 45) X3.out)
              generalize w3.alloc (.cells #[.int .i64 0, .string ⟨#[]⟩, .int .i64 0, .string ⟨#[]⟩, .string ⟨#[]⟩] 45) = w5 at H5 X5 ⊢
              clear H3 X3
              refine (WW _ (by have := HZ.out; omega) (Rounds_ext R.out X5.out)).mono ?_
              rintro _ w7 ⟨rfl, hx⟩
              have H7 := Lib.hid (((ext_iff.1 hx).block _ (lt_of_heap H5.out)).trans H5.out)
              have X7 := Lib.hid (ext_trans X5.out hx)
              clear hx H5 X5 WW c0 c1 c2 c3 c4
              cases fit with
              | false =>
                simp only [Bool.false_eq_true, if_false]
                obtain ⟨c0, c1, c2, c3, c4⟩ := rec_cells (r := ⟨q, u, g, p, b⟩) H7.out
                dsimp only at c0 c1 c2 c3 c4
                have lw7 := lt_of_heap H7.out
                go_wp2_with fail
                refine (WR _ (by have := HZ.out; omega)).mono ?_
                rintro _ w8 ⟨rfl, hx⟩
                have X8 := Lib.hid (ext_trans X7.out hx)
                clear hx
                go_wp2_with fail
                go_ret
                exact ⟨rfl, X8.out⟩
              | true =>
                simp only [if_true]
                have hS := AS.out rfl
                have PA := fun w h => wparse_any T w (by omega) h
                rw [AW.out rfl] at PA
                have hkl := pickN_lt cut T.size (by omega)
                have PK := fun w => pick_any cut T.size w (by omega) (by omega) _ rfl
                have PC := fun w h => wparse_any (T.extract 0 (pickN cut T.size)) w (by rw [ByteArray.size_extract]; omega) h
                rw [AC.out rfl _ hkl] at PC
                have hke : (pickN cut T.size : Int) ≤ T.size := by omega
                generalize pickN cut T.size = kc at PK PC hke
                have hmz := HZ.out.2.2.2.2
                have PM := fun w h => wparse_any (T ++ more) w (by rw [ByteArray.size_append]; omega) h
                rw [AM.out rfl] at PM
                clear AM AC AW AS WR hkl
                unfold recV zeroR at PC
                unfold zeroR at PM
                dsimp only at PC PM
                go_wp2_with fail
                refine (PA _ (Rounds_ext R.out X7.out)).mono ?_
                rintro _ w8 ⟨rfl, hx⟩
                have H8 := Lib.hid (((ext_iff.1 hx).block _ (lt_of_heap H7.out)).trans H7.out)
                have X8 := Lib.hid (ext_trans X7.out hx)
                clear hx H7 X7 PA
                obtain ⟨c0, c1, c2, c3, c4⟩ := rec_cells (r := ⟨q, u, g, p, b⟩) H8.out
                dsimp only at c0 c1 c2 c3 c4
                have lw8 := lt_of_heap H8.out
                go_wp2_with fail
                clear c0 c1 c2 c3 c4 lw8
                have X9 := Lib.hid (ext_alloc (.cells #[.int .i64 q, .string u, .int .i64 g, .string p, .string b] 45) X8.out)
                generalize w8.alloc (.cells #[.int .i64 q, .string u, .int .i64 g, .string p, .string b] 45) = w9 at X9 ⊢
                clear X8
                refine (PK _).mono ?_
                rintro _ w10 ⟨rfl, hx⟩
                have X10 := Lib.hid (ext_trans X9.out hx)
                clear hx X9 PK H8
                go_wp2_with fail
                refine (PC _ (Rounds_ext R.out X10.out)).mono ?_
                rintro _ w11 ⟨rfl, hx⟩
                have X11 := Lib.hid (ext_trans X10.out hx)
                clear hx X10 PC
                go_wp2_with fail
                have X12 := Lib.hid (ext_alloc (.cells #[.int .i64 0, .string ⟨#[]⟩, .int .i64 0, .string ⟨#[]⟩, .string ⟨#[]⟩] 45) X11.out)
                generalize w11.alloc (.cells #[.int .i64 0, .string ⟨#[]⟩, .int .i64 0, .string ⟨#[]⟩, .string ⟨#[]⟩] 45) = w12 at X12 ⊢
                clear X11
                have hsm : T.size + more.size ≤ 1099511627776 := by omega
                refine (PM _ (Rounds_ext R.out X12.out)).mono ?_
                rintro _ w13 ⟨rfl, hx⟩
                have X13 := Lib.hid (ext_trans X12.out hx)
                clear hx X12 PM
                cases hme : more.toList.isEmpty with
                | true =>
                  simp only [if_true]
                  go_wp2_with fail
                  go_ret
                  exact ⟨by simp, ext_alloc _ X13.out⟩
                | false =>
                  simp only [Bool.false_eq_true, if_false]
                  go_wp2_with fail
                  go_ret
                  exact ⟨by simp, ext_alloc _ X13.out⟩
end Go.Proofs.YtjmbobjifojoiaaDoor
