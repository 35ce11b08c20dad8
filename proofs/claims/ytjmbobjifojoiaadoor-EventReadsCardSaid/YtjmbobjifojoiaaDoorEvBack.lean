/- oubliettekeep.EventBack (the walk). -/
import Derived.Test.YtjmbobjifojoiaaDoorProg
import Derived.Test.YtjmbobjifojoiaaDoorEvParse2
namespace Go.Proofs.YtjmbobjifojoiaaDoor
open Go.RowKit

def zeroE : Ev := ⟨0, ⟨#[]⟩, ⟨#[]⟩, ⟨#[]⟩, ⟨#[]⟩⟩
instance (s : List UInt8) : Decidable (parses okV s) := by unfold parses; exact inferInstance
/-- What event.Parse answers. -/
def parseE (s : ByteArray) : Ev := if parses okV (txt s) then readL (pieces (txt s)) else zeroE
def parseX (s : ByteArray) : Value := if parses okV (txt s) then .nilIface else errV 3
theorem kindOf_cases (l : List UInt8) : kindOf l = 0 ∨ kindOf l = 1 ∨ kindOf l = 2 ∨ kindOf l = 3 := by
  unfold kindOf
  by_cases h1 : l = [112, 117, 116]
  · rw [if_pos h1]; exact .inr (.inl rfl)
  · rw [if_neg h1]
    by_cases h2 : l = [100, 101, 108]
    · rw [if_pos h2]; exact .inr (.inr (.inl rfl))
    · rw [if_neg h2]
      by_cases h3 : l = [103, 111, 110, 101]
      · rw [if_pos h3]; exact .inr (.inr (.inr rfl))
      · rw [if_neg h3]; exact .inl rfl
def ParsePost (s : ByteArray) (w : World) (r : Ending) (w' : World) : Prop := r = .returned (.tuple #[.agg (evV (parseE s)), parseX s]) ∧ ∃ x, w' = ext w x
theorem parse_no {s : ByteArray} {w : World} {r : Ending} {w' : World} (hn : ¬ parses okV (txt s)) (h : r = .returned (.tuple #[.agg #[.int .i64 0, .string ⟨#[]⟩, .string ⟨#[]⟩, .string ⟨#[]⟩, .string ⟨#[]⟩], errV 3]) ∧ ∃ x, w' = ext w x) : ParsePost s w r w' := by
  unfold ParsePost parseE parseX
  rw [if_neg hn, if_neg hn]; exact h
theorem parse_yes {s : ByteArray} {w : World} {r : Ending} {w' : World} {E : Ev} (hr : readL (pieces (txt s)) = E) {B : Bool} (hp : parses okV (txt s) ↔ B = true)
    (h : r = .returned (if B = true then .tuple #[.agg (evV E), .nilIface] else .tuple #[.agg #[.int .i64 0, .string ⟨#[]⟩, .string ⟨#[]⟩, .string ⟨#[]⟩, .string ⟨#[]⟩], errV 3]) ∧ ∃ x, w' = ext w x) : ParsePost s w r w' := by
  unfold ParsePost parseE parseX
  by_cases hB : B = true
  · rw [if_pos (hp.2 hB), if_pos (hp.2 hB), hr]; rw [if_pos hB] at h; exact h
  · rw [if_neg (fun h => hB (hp.1 h)), if_neg (fun h => hB (hp.1 h))]; rw [if_neg hB] at h; exact h
theorem list5 {α : Type} {l : List α} (h : l.length = 5) : ∃ a b c d e, l = [a, b, c, d, e] := by
  match l, h with
  | [a, b, c, d, e], _ => exact ⟨a, b, c, d, e, rfl⟩
theorem list4 {α : Type} {l : List α} (h : l.length = 4) : ∃ a b c d, l = [a, b, c, d] := by
  match l, h with
  | [a, b, c, d], _ => exact ⟨a, b, c, d, rfl⟩
theorem list2 {α : Type} {l : List α} (h : l.length = 2) : ∃ a b, l = [a, b] := by
  match l, h with
  | [a, b], _ => exact ⟨a, b, rfl⟩
theorem parse_any (s : ByteArray) (w : World) (hs : s.size ≤ 1048576) (hM : MaxL w) (hW : WordsV w) :
    Calls Tryd.prog 36 #[.string s] w (ParsePost s w) := by
  have hp := piecesB_is s
  have h0 := piecesB_pos s
  have hl : (pieces (txt s)).length = (piecesB s).length := by rw [← hp, List.length_map]
  have hg : (pieces (txt s)).getD 0 [] = txt ((piecesB s)[0]'h0) := by
    rw [← hp, List.getD_eq_getElem?_getD, List.getElem?_map, List.getElem?_eq_getElem h0]; rfl
  have hno : ∀ k : Int, kindOf (txt ((piecesB s)[0]'h0)) = k → (piecesB s).length ≠ manyOf k → ¬ parses okV (txt s) := by
    intro k hk hm h
    rw [parses, hg, hk, hl] at h
    exact hm h.1
  rcases kindOf_cases (txt ((piecesB s)[0]'h0)) with hk | hk | hk | hk
  · exact (parse_none s w hs hM hW _ rfl h0 hk).mono fun _ _ h => parse_no (hno 0 hk (show (piecesB s).length ≠ 0 by omega)) h
  · by_cases hm : (piecesB s).length = 5
    · obtain ⟨x0, x1, x2, x3, x4, e⟩ := list5 hm
      have hk' : kindOf (txt x0) = 1 := by rw [← hk]; simp only [e]; rfl
      have hps : pieces (txt s) = [txt x0, txt x1, txt x2, txt x3, txt x4] := by rw [← hp, e]; rfl
      have hr : readL (pieces (txt s)) = ⟨1, x1, x2, x3, x4⟩ := by rw [hps]; simp [readL, hk', mkT_txt]
      refine (parse_put s w hs hM hW x0 x1 x2 x3 x4 e hk' _ rfl).mono fun _ _ h => parse_yes hr ?_ h
      unfold parses
      rw [hr, hps]
      simp [hk', manyOf]
    · exact (parse_put_many s w hs hM hW _ rfl h0 hk hm).mono fun _ _ h => parse_no (hno 1 hk hm) h
  · by_cases hm : (piecesB s).length = 4
    · obtain ⟨x0, x1, x2, x3, e⟩ := list4 hm
      have hk' : kindOf (txt x0) = 2 := by rw [← hk]; simp only [e]; rfl
      have hps : pieces (txt s) = [txt x0, txt x1, txt x2, txt x3] := by rw [← hp, e]; rfl
      have hr : readL (pieces (txt s)) = ⟨2, x1, x2, x3, ⟨#[]⟩⟩ := by rw [hps]; simp [readL, hk', mkT_txt]; rfl
      refine (parse_del s w hs hM hW x0 x1 x2 x3 e hk' _ rfl).mono fun _ _ h => parse_yes hr ?_ h
      unfold parses
      rw [hr, hps]
      simp [hk', manyOf]
    · exact (parse_del_many s w hs hM hW _ rfl h0 hk hm).mono fun _ _ h => parse_no (hno 2 hk hm) h
  · by_cases hm : (piecesB s).length = 2
    · obtain ⟨x0, x1, e⟩ := list2 hm
      have hk' : kindOf (txt x0) = 3 := by rw [← hk]; simp only [e]; rfl
      have hps : pieces (txt s) = [txt x0, txt x1] := by rw [← hp, e]; rfl
      have hr : readL (pieces (txt s)) = ⟨3, x1, ⟨#[]⟩, ⟨#[]⟩, ⟨#[]⟩⟩ := by rw [hps]; simp [readL, hk', mkT_txt]; rfl
      refine (parse_gone s w hs hM hW x0 x1 e hk' _ rfl).mono fun _ _ h => parse_yes hr ?_ h
      unfold parses
      rw [hr, hps]
      simp [hk', manyOf]
    · exact (parse_gone_many s w hs hM hW _ rfl h0 hk hm).mono fun _ _ h => parse_no (hno 3 hk hm) h

/-! ### A fact -/
def happE : Ev := ⟨1, ⟨#[97, 110, 110]⟩, ⟨#[109, 97, 105, 108]⟩, ⟨#[98, 111, 120]⟩, ⟨#[97, 32, 98]⟩⟩
def happS : ByteArray := ⟨#[112, 117, 116, 32, 97, 110, 110, 32, 109, 97, 105, 108, 32, 98, 111, 120, 32, 97, 32, 98]⟩
theorem happ_right : rightE okV happE = true := by decide +kernel
theorem happ_print : printL happE = txt happS := by decide +kernel
theorem happ_parse : parses okV (txt happS) ∧ readL (pieces (txt happS)) = happE := by rw [← happ_print]; exact read_print happ_right

set_option maxRecDepth 100000 in
set_option maxHeartbeats 1000000 in
theorem happened_any (w : World) (hM : MaxL w) (hW : WordsV w) : Calls Tryd.prog 35 #[] w (Res true w) := by
  have M := Lib.hid hM
  have W := Lib.hid hW
  clear hM hW
  have PA := fun w h1 h2 => parse_any happS w (by decide) h1 h2
  have hE : parseE happS = happE := by unfold parseE; rw [if_pos happ_parse.1]; exact happ_parse.2
  have hX : parseX happS = .nilIface := by unfold parseX; rw [if_pos happ_parse.1]
  unfold ParsePost at PA
  rw [hE, hX] at PA
  have PR := fun w h => print_any happE w (by decide) (by decide) h
  rw [happ_right] at PR
  simp only [if_true] at PR
  rw [happ_print] at PR
  clear hE hX
  go_enter Tryd.func35, Tryd.ntmps35
  go_wp2_with fail
  refine (PA _ M.out W.out).mono ?_
  rintro _ w1 ⟨rfl, hx⟩
  have X1 := Lib.hid hx
  clear hx PA
  unfold evV happE
  go_wp2_with fail
  refine (PR _ (WordsV_of (WordsV_ext W.out X1.out) (fun _ hk => heap_alloc_old _ _ hk) (by simp))).mono ?_
  rintro _ w2 ⟨rfl, hx⟩
  have X2 := Lib.hid (ext_trans (ext_alloc _ X1.out) hx)
  clear hx PR X1
  go_wp2_with fail
  go_ret
  exact ⟨rfl, X2.out⟩
/-! ### EventBack -/
theorem print_sizes {ok : List UInt8 → Bool} {e : Ev} (h : rightE ok e = true) : e.subject.size + e.table.size + e.row.size + e.value.size ≤ (printL e).length := by
  have hk := kind_cases h
  have hl : ∀ x : ByteArray, (txt x).length = x.size := fun x => by unfold txt; rw [Array.length_toList]; rfl
  obtain ⟨k, s, t, r, v⟩ := e
  unfold rightE at h
  rw [Bool.and_eq_true] at h
  have h := h.2
  dsimp only at *
  rcases hk with rfl | rfl | rfl
  · show _ ≤ (wordL 1 ++ 32 :: txt s ++ (32 :: txt t ++ 32 :: txt r ++ 32 :: txt v)).length
    simp only [List.length_append, List.length_cons, hl]; omega
  · rw [if_neg (show ¬ ((2 : Int) = 1) by decide), if_pos rfl] at h
    simp only [Bool.and_eq_true, decide_eq_true_eq] at h
    show _ ≤ (wordL 2 ++ 32 :: txt s ++ (32 :: txt t ++ 32 :: txt r)).length
    simp only [List.length_append, List.length_cons, hl]; omega
  · rw [if_neg (show ¬ ((3 : Int) = 1) by decide), if_neg (show ¬ ((3 : Int) = 2) by decide), if_pos rfl] at h
    simp only [Bool.and_eq_true, decide_eq_true_eq] at h
    show _ ≤ (wordL 3 ++ 32 :: txt s ++ []).length
    simp only [List.length_append, List.length_cons, hl]; omega
theorem print_len (e : Ev) : (printL e).length ≤ 8 + e.subject.size + e.table.size + e.row.size + e.value.size := by
  have hl : ∀ x : ByteArray, (txt x).length = x.size := fun x => by unfold txt; rw [Array.length_toList]; rfl
  have hw : (wordL e.kind).length ≤ 4 := by unfold wordL; split <;> (try split) <;> (try split) <;> simp
  unfold printL
  split
  · simp only [List.length_append, List.length_cons, hl]; omega
  · split
    · simp only [List.length_append, List.length_cons, hl]; omega
    · simp only [List.length_append, List.length_cons, List.length_nil, hl]; omega
theorem parse_good (s : ByteArray) (h : parses okV (txt s)) : ∃ E : Ev, parseE s = E ∧ parseX s = .nilIface ∧ rightE okV E = true ∧ printL E = txt s :=
  ⟨readL (pieces (txt s)), by unfold parseE; rw [if_pos h], by unfold parseX; rw [if_pos h], h.2, print_read h⟩
theorem parse_of_print (e : Ev) (h : rightE okV e = true) : parseE ⟨(printL e).toArray⟩ = e ∧ parseX ⟨(printL e).toArray⟩ = .nilIface := by
  have hp := read_print h
  have ht : txt (⟨(printL e).toArray⟩ : ByteArray) = printL e := rfl
  unfold parseE parseX
  rw [ht, if_pos hp.1, if_pos hp.1]
  exact ⟨hp.2, rfl⟩

set_option maxRecDepth 100000 in
set_option maxHeartbeats 4000000 in
theorem eback_any (e : Ev) (s : ByteArray) (w : World) (hM : MaxL w) (hW : WordsV w) :
    Calls Tryd.prog 7 #[.agg (evV e), .string s] w (Res true w) := by
  have M := Lib.hid hM
  have WW := Lib.hid hW
  clear hM hW
  obtain ⟨k, u, t, r, v⟩ := e
  have RT := fun w h => right_any ⟨k, u, t, r, v⟩ w h
  have PR := fun w h1 h2 h3 => print_any ⟨k, u, t, r, v⟩ w h1 h2 h3
  have PL := Lib.hid (print_len ⟨k, u, t, r, v⟩)
  have PP := Lib.hid (parse_of_print ⟨k, u, t, r, v⟩)
  unfold evV at RT PR ⊢
  dsimp only at RT PR PL
  go_enter Tryd.func7, Tryd.ntmps7
  cases h0 : decide ((40 : Int) < u.size) with
  | true =>
    go_wp2_with fail
    go_ret
    exact ⟨rfl, ext_alloc _ (ext_refl w)⟩
  | false =>
    cases h1 : decide ((40 : Int) < t.size) with
    | true =>
      go_wp2_with fail
      go_ret
      exact ⟨rfl, ext_alloc _ (ext_refl w)⟩
    | false =>
      cases h2 : decide ((40 : Int) < r.size) with
      | true =>
        go_wp2_with fail
        go_ret
        exact ⟨rfl, ext_alloc _ (ext_refl w)⟩
      | false =>
        cases h3 : decide ((60 : Int) < v.size) with
        | true =>
          go_wp2_with fail
          go_ret
          exact ⟨rfl, ext_alloc _ (ext_refl w)⟩
        | false =>
          cases h4 : decide ((150 : Int) < s.size) with
          | true =>
            go_wp2_with fail
            go_ret
            exact ⟨rfl, ext_alloc _ (ext_refl w)⟩
          | false =>
            have hz : u.size ≤ 40 ∧ t.size ≤ 40 ∧ r.size ≤ 40 ∧ v.size ≤ 60 ∧ s.size ≤ 150 := by
              have := of_decide_eq_false h0; have := of_decide_eq_false h1; have := of_decide_eq_false h2; have := of_decide_eq_false h3; have := of_decide_eq_false h4; omega
            have HZ := Lib.hid hz
            clear hz
            go_wp2_with fail
            clear h0 h1 h2 h3 h4
            have H1 := Lib.hid (heap_alloc_at w (.cells #[.int .i64 k, .string u, .string t, .string r, .string v] 54))
            have X1 := Lib.hid (ext_alloc (.cells #[.int .i64 k, .string u, .string t, .string r, .string v] 54) (ext_refl w))
            generalize w.alloc (.cells #[.int .i64 k, .string u, .string t, .string r, .string v] 54) = w1 at H1 X1 ⊢
            refine (happened_any _ (MaxL_ext M.out X1.out) (WordsV_ext WW.out X1.out)).mono ?_
            rintro _ w2 ⟨rfl, hx⟩
            have H2 := Lib.hid (((ext_iff.1 hx).block _ (lt_of_heap H1.out)).trans H1.out)
            have X2 := Lib.hid (ext_trans X1.out hx)
            clear hx H1 X1
            go_wp2_with fail
            refine (parse_any s _ (by have := HZ.out; omega) (MaxL_ext M.out X2.out) (WordsV_ext WW.out X2.out)).mono ?_
            rintro _ w3 ⟨rfl, hx⟩
            have H3 := Lib.hid (((ext_iff.1 hx).block _ (lt_of_heap H2.out)).trans H2.out)
            have X3 := Lib.hid (ext_trans X2.out hx)
            clear hx H2 X2
            by_cases hp : parses okV (txt s)
            · obtain ⟨E, e1, e2, e3, e4⟩ := parse_good s hp
              rw [e1, e2]
              have PS := Lib.hid (print_sizes e3)
              have PX := fun w h1 h2 h3 => print_any E w h1 h2 h3
              rw [e3] at PX
              simp only [if_true] at PX
              rw [e4] at PS PX
              have hsz : (txt s).length = s.size := by unfold txt; rw [Array.length_toList]; rfl
              rw [hsz] at PS
              clear e1 e2 e3 e4 hp hsz
              obtain ⟨k', u', t', r', v'⟩ := E
              unfold evV at PX ⊢
              dsimp only at PS PX
              go_wp2_with fail
              have H4 := Lib.hid ((heap_alloc_old w3 (.cells #[.int .i64 k', .string u', .string t', .string r', .string v'] 54) (lt_of_heap H3.out)).trans H3.out)
              have X4 := Lib.hid (ext_alloc (.cells #[.int .i64 k', .string u', .string t', .string r', .string v'] 54) X3.out)
              generalize w3.alloc (.cells #[.int .i64 k', .string u', .string t', .string r', .string v'] 54) = w4 at H4 X4 ⊢
              clear H3 X3
              refine (PX _ (by have := HZ.out; have := PS.out; omega) (by have := HZ.out; have := PS.out; omega) (WordsV_ext WW.out X4.out)).mono ?_
              rintro _ w5 ⟨rfl, hx⟩
              have H5 := Lib.hid (((ext_iff.1 hx).block _ (lt_of_heap H4.out)).trans H4.out)
              have X5 := Lib.hid (ext_trans X4.out hx)
              clear hx H4 X4 PX
              have hss : (!(txt s == s.toList)) = false := by rw [Lib.toList_data]; unfold txt; simp
              obtain ⟨c0, c1, c2, c3, c4⟩ := ev_cells H5.out
              go_wp2_with fail
              refine (PR _ (by have := HZ.out; omega) (by have := HZ.out; omega) (WordsV_ext WW.out X5.out)).mono ?_
              rintro _ w7 ⟨rfl, hx⟩
              have H7 := Lib.hid (((ext_iff.1 hx).block _ (lt_of_heap H5.out)).trans H5.out)
              have X7 := Lib.hid (ext_trans X5.out hx)
              clear hx H5 X5 PR
              clear c0 c1 c2 c3 c4
              obtain ⟨c0, c1, c2, c3, c4⟩ := ev_cells H7.out
              cases hR : rightE okV ⟨k, u, t, r, v⟩ with
              | false =>
                rw [hR] at RT
                simp only [Bool.false_eq_true, if_false]
                go_wp2_with fail
                refine (RT _ (by have := HZ.out; omega)).mono ?_
                rintro _ w8 ⟨rfl, hx⟩
                have X8 := Lib.hid (ext_trans X7.out hx)
                clear hx
                go_wp2_with fail
                go_ret
                exact ⟨rfl, X8.out⟩
              | true =>
                simp only [if_true]
                have PA := fun w h1 h2 => parse_any ⟨(printL ⟨k, u, t, r, v⟩).toArray⟩ w (by show (printL ⟨k, u, t, r, v⟩).toArray.size ≤ _; rw [List.size_toArray]; have := PL.out; have := HZ.out; omega) h1 h2
                unfold ParsePost at PA
                rw [(PP.out hR).1, (PP.out hR).2] at PA
                unfold evV at PA
                generalize printL ⟨k, u, t, r, v⟩ = T at PA ⊢
                clear PP PL RT hR
                go_wp2_with fail
                refine (PA _ (MaxL_ext M.out X7.out) (WordsV_ext WW.out X7.out)).mono ?_
                rintro _ w8 ⟨rfl, hx⟩
                have H8 := Lib.hid (((ext_iff.1 hx).block _ (lt_of_heap H7.out)).trans H7.out)
                have X8 := Lib.hid (ext_trans X7.out hx)
                have lw8 := lt_of_heap H8.out
                clear hx H7 X7 PA c0 c1 c2 c3 c4
                obtain ⟨c0, c1, c2, c3, c4⟩ := ev_cells H8.out
                go_wp2_with fail
                go_ret
                exact ⟨by simp, ext_alloc _ X8.out⟩
            · have e2 : parseX s = errV 3 := by unfold parseX; rw [if_neg hp]
              have e1 : parseE s = zeroE := by unfold parseE; rw [if_neg hp]
              rw [e1, e2]
              clear e1 e2 hp
              unfold evV zeroE
              dsimp only
              obtain ⟨c0, c1, c2, c3, c4⟩ := ev_cells H3.out
              have lw3 := lt_of_heap H3.out
              go_wp2_with fail
              have H5 := Lib.hid ((heap_alloc_old w3 (.cells #[.int .i64 0, .string ⟨#[]⟩, .string ⟨#[]⟩, .string ⟨#[]⟩, .string ⟨#[]⟩] 54) (lt_of_heap H3.out)).trans H3.out)
              have X5 := Lib.hid (ext_alloc (.cells #[.int .i64 0, .string ⟨#[]⟩, .string ⟨#[]⟩, .string ⟨#[]⟩, .string ⟨#[]⟩] 54) X3.out)
              generalize w3.alloc (.cells #[.int .i64 0, .string ⟨#[]⟩, .string ⟨#[]⟩, .string ⟨#[]⟩, .string ⟨#[]⟩] 54) = w5 at H5 X5 ⊢
              clear H3 X3
              refine (PR _ (by have := HZ.out; omega) (by have := HZ.out; omega) (WordsV_ext WW.out X5.out)).mono ?_
              rintro _ w7 ⟨rfl, hx⟩
              have H7 := Lib.hid (((ext_iff.1 hx).block _ (lt_of_heap H5.out)).trans H5.out)
              have X7 := Lib.hid (ext_trans X5.out hx)
              clear hx H5 X5 PR
              clear c0 c1 c2 c3 c4
              obtain ⟨c0, c1, c2, c3, c4⟩ := ev_cells H7.out
              cases hR : rightE okV ⟨k, u, t, r, v⟩ with
              | false =>
                rw [hR] at RT
                simp only [Bool.false_eq_true, if_false]
                go_wp2_with fail
                refine (RT _ (by have := HZ.out; omega)).mono ?_
                rintro _ w8 ⟨rfl, hx⟩
                have X8 := Lib.hid (ext_trans X7.out hx)
                clear hx
                go_wp2_with fail
                go_ret
                exact ⟨rfl, X8.out⟩
              | true =>
                simp only [if_true]
                have PA := fun w h1 h2 => parse_any ⟨(printL ⟨k, u, t, r, v⟩).toArray⟩ w (by show (printL ⟨k, u, t, r, v⟩).toArray.size ≤ _; rw [List.size_toArray]; have := PL.out; have := HZ.out; omega) h1 h2
                unfold ParsePost at PA
                rw [(PP.out hR).1, (PP.out hR).2] at PA
                unfold evV at PA
                generalize printL ⟨k, u, t, r, v⟩ = T at PA ⊢
                clear PP PL RT hR
                go_wp2_with fail
                refine (PA _ (MaxL_ext M.out X7.out) (WordsV_ext WW.out X7.out)).mono ?_
                rintro _ w8 ⟨rfl, hx⟩
                have H8 := Lib.hid (((ext_iff.1 hx).block _ (lt_of_heap H7.out)).trans H7.out)
                have X8 := Lib.hid (ext_trans X7.out hx)
                have lw8 := lt_of_heap H8.out
                clear hx H7 X7 PA c0 c1 c2 c3 c4
                obtain ⟨c0, c1, c2, c3, c4⟩ := ev_cells H8.out
                go_wp2_with fail
                go_ret
                exact ⟨by simp, ext_alloc _ X8.out⟩
end Go.Proofs.YtjmbobjifojoiaaDoor
