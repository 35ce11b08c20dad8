/- vault.Name (the walk). -/
import Derived.Test.YtnkmckdefiblhaaGreatDoorProg
import Derived.Test.YtnkmckdefiblhaaGreatDoorShelfN
import Derived.Test.YtnkmckdefiblhaaGreatDoorG1
namespace Go.Proofs.YtnkmckdefiblhaaGreatDoor
open Go.RowKit

def lettersS : ByteArray := ⟨#[97, 98, 99, 100, 101, 102, 103, 104, 105, 106, 107, 108, 109, 110, 111, 112, 113, 114, 115, 116, 117, 118, 119, 120, 121, 122]⟩
def cutS : ByteArray := ⟨#[97, 98, 99, 100, 101, 102, 103, 104, 105, 106, 107, 108, 109, 110, 111, 112, 113, 114, 115, 116, 117, 118, 119, 120, 121, 122, 48, 49, 50, 51, 52, 53, 54, 55, 56, 57]⟩
theorem ixb_any (c : UInt8) (w : World) :
    Calls Tryz.prog 154 #[.string lettersS, .int .u8 (c.toNat : Int)] w fun r w' => r = .returned (.int .i64 (Lib.indexByte lettersL c)) ∧ w' = w := by
  have h := Tryz.strings_IndexByte lettersS (c.toNat : Int) w
  rw [show ((c.toNat : Int)).toNat.toUInt8 = c by simp] at h
  exact h
theorem trim_any (s : ByteArray) (w : World) (hs : s.size ≤ 9223372036854775807) :
    Calls Tryz.prog 155 #[.string s, .string cutS] w fun r w' => r = .returned (.string ⟨(Lib.trimS s.data.toList (lettersL ++ digitsL)).toArray⟩) ∧ ∃ x, w' = ext w x :=
  (Any.strings_Trim_laid Tryz.lays160 (by kernel_rfl) s cutS w hs (by decide) (ascii_of_all (by decide))).mono fun _ _ ⟨h, hb⟩ => ⟨h, ext_of hb⟩

set_option maxRecDepth 100000 in
set_option maxHeartbeats 1000000 in
theorem name_any (s : ByteArray) (w : World) (hs : s.size ≤ 9223372036854775807) :
    Calls Tryz.prog 124 #[.string s] w fun r w' => r = .returned (.bool (nameB s.data.toList)) ∧ ∃ x, w' = ext w x := by
  have hl : s.data.toList.length = s.size := by rw [Array.length_toList]; rfl
  by_cases h0 : s.size = 0
  · have hn : s.data.toList = [] := List.length_eq_zero_iff.1 (hl.trans h0)
    obtain rfl : s = ⟨#[]⟩ := ByteArray.ext (Array.toList_inj.1 (by rw [hn]))
    clear hn hl h0 hs
    go_enter Tryz.func124, Tryz.ntmps124
    go_wp2_with fail
    go_ret
    exact ⟨rfl, ext_refl _⟩
  · have hp : 0 < s.size := by omega
    have hne : s.toList.isEmpty = false := by
      rw [Lib.toList_data, List.isEmpty_eq_false_iff]
      intro e
      exact h0 (by rw [← hl, e]; rfl)
    by_cases h10 : s.size ≤ 10
    · have hd : (s.size : Int) ≤ 10 := by omega
      have h0' : (0 : Int) < s.size := by omega
      have hge := get_data0 s 0 (by omega)
      have hhd : s.data.toList.headD 0 = s.data.toList.getD 0 0 := by cases s.data.toList <;> rfl
      have hN : nameB s.data.toList = (letterB (s[0]'hp) && s.data.toList.all (fun c => letterB c || digitB c)) := by
        unfold nameB
        rw [hhd, ← hge, show s.data.toList.isEmpty = false by rw [List.isEmpty_eq_false_iff]; intro e; rw [e] at hl; exact h0 hl.symm, show decide (s.data.toList.length ≤ 10) = true by rw [decide_eq_true_iff]; omega]
        simp
      have hi := ixb_any (s[0]'hp)
      have hlet := letter_is (s[0]'hp)
      have ht := fun w => trim_any s w hs
      have htr := trim_is s.data.toList
      rw [hN]
      clear hN hge hhd hs h0 h10
      generalize letterB (s[0]'hp) = A at hlet ⊢
      generalize s.data.toList.all (fun c => letterB c || digitB c) = B at htr ⊢
      generalize Lib.trimS s.data.toList (lettersL ++ digitsL) = T at ht htr
      generalize Lib.indexByte lettersL (s[0]'hp) = ix at hi hlet
      cases A with
      | false =>
        have hix : ¬ (0 : Int) ≤ ix := of_decide_eq_false hlet
        clear hlet
        go_enter Tryz.func124, Tryz.ntmps124
        go_wp2_with fail
        refine (hi _).mono ?_
        rintro _ w1 ⟨rfl, rfl⟩
        go_wp2_with fail
        go_ret
        exact ⟨rfl, ext_refl _⟩
      | true =>
        have hix : (0 : Int) ≤ ix := of_decide_eq_true hlet
        clear hlet
        have hT : (T == []) = B := by rw [← htr]; cases T <;> rfl
        clear htr
        cases B with
        | false =>
          go_enter Tryz.func124, Tryz.ntmps124
          go_wp2_with fail
          refine (hi _).mono ?_
          rintro _ w1 ⟨rfl, rfl⟩
          go_wp2_with fail
          refine (ht _).mono ?_
          rintro _ w1 ⟨rfl, hx⟩
          have X := Lib.hid hx
          clear hx
          go_wp2_with fail
          go_ret
          exact ⟨rfl, X.out⟩
        | true =>
          go_enter Tryz.func124, Tryz.ntmps124
          go_wp2_with fail
          refine (hi _).mono ?_
          rintro _ w1 ⟨rfl, rfl⟩
          go_wp2_with fail
          refine (ht _).mono ?_
          rintro _ w1 ⟨rfl, hx⟩
          have X := Lib.hid hx
          clear hx
          go_wp2_with fail
          go_ret
          exact ⟨rfl, X.out⟩
    · have hd : ¬ (s.size : Int) ≤ 10 := by omega
      have hN : nameB s.data.toList = false := by
        unfold nameB
        rw [show decide (s.data.toList.length ≤ 10) = false by rw [decide_eq_false_iff_not]; omega]
        simp
      rw [hN]
      clear hN hl h0 hs h10
      go_enter Tryz.func124, Tryz.ntmps124
      go_wp2_with fail
      go_ret
      exact ⟨rfl, ext_refl _⟩
end Go.Proofs.YtnkmckdefiblhaaGreatDoor
