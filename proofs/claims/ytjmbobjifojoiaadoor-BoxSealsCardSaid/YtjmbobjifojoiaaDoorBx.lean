/- oubliettelaw.BoxSeals (the walk; printed by wip/bin/gen_bx.py). -/
import Derived.Test.YtjmbobjifojoiaaDoorProg
import Derived.Test.YtjmbobjifojoiaaDoorRefMark
namespace Go.Proofs.YtjmbobjifojoiaaDoor
open Go.RowKit

set_option maxRecDepth 100000 in
set_option maxHeartbeats 4000000 in
theorem bx_any (key nonce wth text s : ByteArray) (w : World) (hR : Rounds w) (hE : ErrT w) :
    Calls Tryd.prog 5 #[.string key, .string nonce, .string wth, .string text, .string s] w fun r w' => r = .returned (.bool true) ∧ ∃ x, w' = ext w x := by
  have R := Lib.hid hR
  have ET := Lib.hid hE
  clear hR hE
  go_enter Tryd.func5, Tryd.ntmps5
  cases h0 : decide ((60 : Int) < key.size) with
  | true =>
    go_wp2_with fail
    refine (long_any _ _).mono ?_
    rintro _ w1 ⟨rfl, rfl⟩
    rw [h0]
    go_wp2_with fail
    go_ret
    exact ⟨rfl, ext_refl _⟩
  | false =>
    cases h1 : decide ((60 : Int) < nonce.size) with
    | true =>
      go_wp2_with fail
      refine (long_any _ _).mono ?_
      rintro _ w1 ⟨rfl, rfl⟩
      rw [h0]
      go_wp2_with fail
      refine (long_any _ _).mono ?_
      rintro _ w1 ⟨rfl, rfl⟩
      rw [h1]
      go_wp2_with fail
      go_ret
      exact ⟨rfl, ext_refl _⟩
    | false =>
      cases h2 : decide ((60 : Int) < wth.size) with
      | true =>
        go_wp2_with fail
        refine (long_any _ _).mono ?_
        rintro _ w1 ⟨rfl, rfl⟩
        rw [h0]
        go_wp2_with fail
        refine (long_any _ _).mono ?_
        rintro _ w1 ⟨rfl, rfl⟩
        rw [h1]
        go_wp2_with fail
        refine (long_any _ _).mono ?_
        rintro _ w1 ⟨rfl, rfl⟩
        rw [h2]
        go_wp2_with fail
        go_ret
        exact ⟨rfl, ext_refl _⟩
      | false =>
        cases h3 : decide ((450 : Int) < text.size) with
        | true =>
          go_wp2_with fail
          refine (long_any _ _).mono ?_
          rintro _ w1 ⟨rfl, rfl⟩
          rw [h0]
          go_wp2_with fail
          refine (long_any _ _).mono ?_
          rintro _ w1 ⟨rfl, rfl⟩
          rw [h1]
          go_wp2_with fail
          refine (long_any _ _).mono ?_
          rintro _ w1 ⟨rfl, rfl⟩
          rw [h2]
          go_wp2_with fail
          go_ret
          exact ⟨rfl, ext_refl _⟩
        | false =>
          cases h4 : decide ((450 : Int) < s.size) with
          | true =>
            go_wp2_with fail
            refine (long_any _ _).mono ?_
            rintro _ w1 ⟨rfl, rfl⟩
            rw [h0]
            go_wp2_with fail
            refine (long_any _ _).mono ?_
            rintro _ w1 ⟨rfl, rfl⟩
            rw [h1]
            go_wp2_with fail
            refine (long_any _ _).mono ?_
            rintro _ w1 ⟨rfl, rfl⟩
            rw [h2]
            go_wp2_with fail
            go_ret
            exact ⟨rfl, ext_refl _⟩
          | false =>
            have hsz : wth.size ≤ 1048576 ∧ key.size ≤ 60 ∧ nonce.size ≤ 60 := by
              have := of_decide_eq_false h0; have := of_decide_eq_false h1; have := of_decide_eq_false h2; omega
            have HS := Lib.hid hsz
            clear hsz
            go_wp2_with fail
            refine (long_any _ _).mono ?_
            rintro _ w1 ⟨rfl, rfl⟩
            rw [h0]
            go_wp2_with fail
            refine (long_any _ _).mono ?_
            rintro _ w1 ⟨rfl, rfl⟩
            rw [h1]
            go_wp2_with fail
            refine (long_any _ _).mono ?_
            rintro _ w1 ⟨rfl, rfl⟩
            rw [h2]
            go_wp2_with fail
            clear h0 h1 h2 h3 h4
            refine (new_any _).mono ?_
            rintro _ w1 ⟨b, rfl, hb, -, hx⟩
            have X1 := Lib.hid hx
            have B1 := Lib.hid hb
            clear hx hb
            have S1 := fun w (h : isR w b) => rseal_all b key nonce wth text w HS.out.1 h
            have S2 := fun w (h : Rounds w) => seal_all key nonce wth text w HS.out.1 h
            generalize sealR key nonce wth text = A at S1 S2
            obtain ⟨a, e⟩ := A
            dsimp only at S1 S2
            go_wp2_with fail
            refine (S1 _ B1.out).mono ?_
            rintro _ w2 ⟨rfl, hx⟩
            have X2 := Lib.hid (ext_trans X1.out hx)
            have B2 := Lib.hid (isR_ext B1.out hx)
            clear hx X1 B1 S1
            go_wp2_with fail
            refine (S2 _ (Rounds_ext R.out X2.out)).mono ?_
            rintro _ w3 ⟨rfl, hx⟩
            have X3 := Lib.hid (ext_trans X2.out hx)
            have B3 := Lib.hid (isR_ext B2.out hx)
            clear hx X2 B2 S2
            go_wp2_with fail
            refine (bare_any _ (errOf_is e) e _ (ErrT_ext ET.out X3.out)).mono ?_
            rintro _ w4 ⟨rfl, hx⟩
            have X4 := Lib.hid (ext_trans X3.out hx)
            have B4 := Lib.hid (isR_ext B3.out hx)
            clear hx X3 B3
            rw [errOf_num]
            have haa : (a != a) = false := by simp
            go_wp2_with fail
            have T5 : Hid (textsAt (w4.alloc (.cells #[.string s, .string ⟨a.toArray⟩] 9)) (some ⟨w4.heap.size, 0, none⟩) [s, ⟨a.toArray⟩]) := Lib.hid (by
              intro j u hj
              refine ⟨w4.heap.size, 0, rfl, by simp, ?_⟩
              rw [Nat.zero_add, World.cell?_alloc_new]
              match j, hj with
              | 0, hj => cases hj; rfl
              | 1, hj => cases hj; rfl
              | (j + 2), hj => simp at hj)
            have X5 := Lib.hid (ext_alloc (.cells #[.string s, .string ⟨a.toArray⟩] 9) X4.out)
            have B5 := Lib.hid (isR_alloc B4.out (.cells #[.string s, .string ⟨a.toArray⟩] 9))
            generalize w4.alloc (.cells #[.string s, .string ⟨a.toArray⟩] 9) = w5 at T5 X5 B5 ⊢
            generalize w4.heap.size = g at T5 ⊢
            have hlen : ([s, ⟨a.toArray⟩] : List ByteArray).length = 2 := rfl
            generalize [s, ⟨a.toArray⟩] = ts at T5 hlen
            clear X4 B4 haa
            go_loopw [73] (fun iv wr => ∃ q : Nat, q ≤ 2 ∧ iv = .int .i64 q ∧ Hid (isR wr b) ∧ Hid (textsAt wr (some ⟨g, 0, none⟩) ts) ∧ Hid (∃ x, wr = ext w x)) (fun iv _ => 2 - (intOf iv).toNat)
            case atStart => exact ⟨0, by omega, rfl, B5, T5, X5⟩
            case round =>
              clear B5 T5 X5
              obtain ⟨q, hq, rfl, B5, T5, X5⟩ := hrel
              by_cases hq2 : q < 2
              · obtain ⟨g', o', he, hg', hc⟩ := T5.out q ts[q] (List.getElem?_eq_getElem (by omega))
                injection he with he
                injection he with he1 he2
                subst he1 he2
                rw [Nat.zero_add] at hc
                generalize ts[q] = u at hc
                have O1 := fun w (h : isR w b) => ropen_all b key nonce wth u w HS.out.1 h
                have O2 := fun w (h : Rounds w) => open_all key nonce wth u w HS.out.1 h
                generalize openR key nonce wth u = C at O1 O2
                obtain ⟨c, f⟩ := C
                dsimp only at O1 O2
                go_wp2_with fail
                refine (O1 _ B5.out).mono ?_
                rintro _ w6 ⟨rfl, hx⟩
                have X6 := Lib.hid (ext_trans X5.out hx)
                have B6 := Lib.hid (isR_ext B5.out hx)
                have T6 := Lib.hid (textsAt_of T5.out (fun k hk => (ext_iff.1 hx).block k hk) (ext_iff.1 hx).size)
                clear hx X5 B5 T5 O1 hc hg'
                go_wp2_with fail
                refine (O2 _ (Rounds_ext R.out X6.out)).mono ?_
                rintro _ w7 ⟨rfl, hx⟩
                have X7 := Lib.hid (ext_trans X6.out hx)
                have B7 := Lib.hid (isR_ext B6.out hx)
                have T7 := Lib.hid (textsAt_of T6.out (fun k hk => (ext_iff.1 hx).block k hk) (ext_iff.1 hx).size)
                clear hx X6 B6 T6 O2
                go_wp2_with fail
                refine (bare_any _ (errOf_is f) f _ (ErrT_ext ET.out X7.out)).mono ?_
                rintro _ w8 ⟨rfl, hx⟩
                have X8 := Lib.hid (ext_trans X7.out hx)
                have B8 := Lib.hid (isR_ext B7.out hx)
                have T8 := Lib.hid (textsAt_of T7.out (fun k hk => (ext_iff.1 hx).block k hk) (ext_iff.1 hx).size)
                clear hx X7 B7 T7
                rw [errOf_num]
                have hcc : (c != c) = false := by simp
                go_wp2_with fail
                go_roundw
                case rel => exact ⟨q + 1, by omega, by go_num, B8, T8, X8⟩
                case measure => simp [intOf]; omega
              · obtain rfl : q = 2 := by omega
                rw [show ((2 : Nat) : Int) = 2 from rfl]
                go_wp2_with fail
                go_ret
                exact ⟨rfl, X5.out⟩
end Go.Proofs.YtjmbobjifojoiaaDoor
