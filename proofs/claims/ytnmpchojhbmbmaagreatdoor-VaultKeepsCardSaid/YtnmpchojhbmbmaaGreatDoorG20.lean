/- oublietteref.Name (the walk). -/
import Derived.Test.YtnmpchojhbmbmaaGreatDoorProg
import Derived.Test.YtnmpchojhbmbmaaGreatDoorG13
import Derived.Test.YtnmpchojhbmbmaaGreatDoorNameL
import Derived.Test.YtnmpchojhbmbmaaGreatDoorG4
namespace Go.Proofs.YtnmpchojhbmbmaaGreatDoor
open Go.RowKit

/-- What stands at a place of a name. -/
def plaB (l : List UInt8) (i : Nat) : Bool := letterB (l.getD i 0) || (decide (i ≠ 0) && digitB (l.getD i 0))
theorem nameB_is (l : List UInt8) : nameB l = (decide (1 ≤ l.length ∧ l.length ≤ 10) && decide (∀ i, i < l.length → plaB l i = true)) := by
  cases l with
  | nil => rfl
  | cons a l =>
    rw [Bool.eq_iff_iff]
    unfold nameB
    simp only [Bool.and_eq_true, decide_eq_true_eq, List.isEmpty_cons, Bool.not_false, List.headD_cons, List.all_eq_true, true_and]
    constructor
    · rintro ⟨⟨h1, h2⟩, h3⟩
      refine ⟨⟨by simp, h1⟩, fun i hi => ?_⟩
      unfold plaB
      cases i with
      | zero => rw [List.getD_cons_zero, h2]; rfl
      | succ i =>
        have hm : (a :: l).getD (i + 1) 0 ∈ a :: l := by
          rw [List.getD_eq_getElem?_getD, List.getElem?_eq_getElem hi]; exact List.getElem_mem hi
        have := h3 _ hm
        simpa using this
    · rintro ⟨⟨_, h1⟩, h2⟩
      refine ⟨⟨h1, ?_⟩, fun x hx => ?_⟩
      · have := h2 0 (by simp)
        simpa [plaB] using this
      · obtain ⟨i, hi, rfl⟩ := List.getElem_of_mem hx
        have := h2 i hi
        unfold plaB at this
        rw [List.getD_eq_getElem?_getD, List.getElem?_eq_getElem hi, Option.getD_some] at this
        rw [Bool.or_eq_true, Bool.and_eq_true] at this
        rw [Bool.or_eq_true]
        rcases this with h | h
        · exact .inl h
        · exact .inr h.2
theorem name_bad {l : List UInt8} {i : Nat} (hi : i < l.length) (h : plaB l i = false) : nameB l = false := by
  rw [nameB_is]
  rw [show decide (∀ i, i < l.length → plaB l i = true) = false from decide_eq_false (fun hh => by rw [hh i hi] at h; exact absurd h (by decide)), Bool.and_false]
theorem name_end {l : List UInt8} (h : ∀ i, i < l.length → plaB l i = true) : nameB l = decide (1 ≤ l.length ∧ l.length ≤ 10) := by
  rw [nameB_is, show decide (∀ i, i < l.length → plaB l i = true) = true by rw [decide_eq_true_iff]; exact h, Bool.and_true]

set_option maxRecDepth 100000 in
set_option maxHeartbeats 2000000 in
theorem rname_any (s : ByteArray) (w : World) (hs : s.size ≤ 1048576) :
    Calls Tryz.prog 19 #[.string s] w fun r w' => r = .returned (.bool (nameB s.data.toList)) ∧ w = w' := by
  have HL : Hid (s.data.toList.length = s.size) := Lib.hid (by rw [Array.length_toList]; rfl)
  go_enter Tryz.func19, Tryz.ntmps19
  go_wp2_with fail
  go_loopw [7] (fun iv wr => ∃ k : Nat, k ≤ s.size ∧ iv = .int .i64 k ∧ Hid (∀ i, i < k → plaB s.data.toList i = true) ∧ wr = w) (fun iv _ => s.size - (intOf iv).toNat)
  case atStart => exact ⟨0, Nat.zero_le _, rfl, Lib.hid (fun i hi => absurd hi (Nat.not_lt_zero _)), rfl⟩
  case round =>
    obtain ⟨k, hk, rfl, HQ, rfl⟩ := hrel
    by_cases hlt : k < s.size
    · have hgd := get_data0 s k hlt
      have HP : Hid (plaB s.data.toList k = (letterB (s[k]'hlt) || (decide (k ≠ 0) && digitB (s[k]'hlt)))) := Lib.hid (by unfold plaB; rw [hgd])
      have HN : Hid (plaB s.data.toList k = false → nameB s.data.toList = false) := Lib.hid (fun h => name_bad (by rw [HL.out]; exact hlt) h)
      have HS : Hid (plaB s.data.toList k = true → ∀ i, i < k + 1 → plaB s.data.toList i = true) := Lib.hid (fun h i hi => by
        by_cases e : i = k
        · rw [e]; exact h
        · exact HQ.out i (by omega))
      clear hgd HQ
      by_cases a : (97 : Int) ≤ (s[k]'hlt).toNat
      · by_cases b : ((s[k]'hlt).toNat : Int) ≤ 122
        · have hp : plaB s.data.toList k = true := by rw [HP.out, show letterB (s[k]'hlt) = true by unfold letterB; rw [decide_eq_true_iff]; omega]; rfl
          have HS2 := Lib.hid (HS.out hp)
          clear HP HN HS hp
          go_wp2_with fail
          go_roundw
          case rel => exact ⟨k + 1, by omega, by go_num, HS2, by first | rfl | trivial⟩
          case measure => simp [intOf]; omega
        · have hl : letterB (s[k]'hlt) = false := by unfold letterB; rw [decide_eq_false_iff_not]; omega
          have hd : digitB (s[k]'hlt) = false := by unfold digitB; rw [decide_eq_false_iff_not]; omega
          have hp : nameB s.data.toList = false := HN.out (by rw [HP.out, hl, hd]; simp)
          have d1 : (48 : Int) ≤ (s[k]'hlt).toNat := by omega
          have d2 : ¬ ((s[k]'hlt).toNat : Int) ≤ 57 := by omega
          have hp := Lib.hid hp
          clear HP HN HS hl hd
          by_cases z : k = 0
          · have hz : ((k : Int) == 0) = true := by rw [beq_iff_eq]; omega
            clear z
            go_wp2_with fail
            go_ret
            exact ⟨by first | rfl | (rw [hp.out]; rfl), rfl⟩
          · have hz : ((k : Int) == 0) = false := by rw [beq_eq_false_iff_ne]; omega
            clear z
            go_wp2_with fail
            go_ret
            exact ⟨by first | rfl | (rw [hp.out]; rfl), rfl⟩
      · have hl : letterB (s[k]'hlt) = false := by unfold letterB; rw [decide_eq_false_iff_not]; omega
        by_cases z : k = 0
        · have hz : ((k : Int) == 0) = true := by rw [beq_iff_eq]; omega
          have hp : nameB s.data.toList = false := HN.out (by rw [HP.out, hl, show decide (k ≠ 0) = false by simp [z]]; rfl)
          have hp := Lib.hid hp
          clear HP HN HS hl z
          go_wp2_with fail
          go_ret
          exact ⟨by first | rfl | (rw [hp.out]; rfl), rfl⟩
        · have hz : ((k : Int) == 0) = false := by rw [beq_eq_false_iff_ne]; omega
          by_cases d1 : (48 : Int) ≤ (s[k]'hlt).toNat
          · by_cases d2 : ((s[k]'hlt).toNat : Int) ≤ 57
            · have hp : plaB s.data.toList k = true := by rw [HP.out, hl, show digitB (s[k]'hlt) = true by unfold digitB; rw [decide_eq_true_iff]; omega]; simpa using z
              have HS2 := Lib.hid (HS.out hp)
              clear HP HN HS hl hp z
              go_wp2_with fail
              go_roundw
              case rel => exact ⟨k + 1, by omega, by go_num, HS2, by first | rfl | trivial⟩
              case measure => simp [intOf]; omega
            · have hp : nameB s.data.toList = false := HN.out (by rw [HP.out, hl, show digitB (s[k]'hlt) = false by unfold digitB; rw [decide_eq_false_iff_not]; omega]; simp)
              have hp := Lib.hid hp
              clear HP HN HS hl z
              go_wp2_with fail
              go_ret
              exact ⟨by first | rfl | (rw [hp.out]; rfl), rfl⟩
          · have hp : nameB s.data.toList = false := HN.out (by rw [HP.out, hl, show digitB (s[k]'hlt) = false by unfold digitB; rw [decide_eq_false_iff_not]; omega]; simp)
            have hp := Lib.hid hp
            clear HP HN HS hl z
            go_wp2_with fail
            go_ret
            exact ⟨by first | rfl | (rw [hp.out]; rfl), rfl⟩
    · obtain rfl : k = s.size := by omega
      have hE := name_end (l := s.data.toList) (by rw [HL.out]; exact HQ.out)
      rw [HL.out] at hE
      have hE := Lib.hid hE
      clear HQ
      by_cases h1 : 1 ≤ s.size ∧ s.size ≤ 10
      · have hv : nameB s.data.toList = true := by rw [hE.out]; exact decide_eq_true h1
        have hv := Lib.hid hv
        go_wp2_with fail
        refine (in_yes _ _ _ (by omega) (by omega) _).mono ?_
        rintro _ w1 ⟨rfl, rfl⟩
        go_wp2_with fail
        go_ret
        exact ⟨by first | rfl | (rw [hv.out]; rfl), rfl⟩
      · have hv : nameB s.data.toList = false := by rw [hE.out]; exact decide_eq_false h1
        have hv := Lib.hid hv
        go_wp2_with fail
        refine (in_no _ _ _ (by omega) _).mono ?_
        rintro _ w1 ⟨rfl, rfl⟩
        go_wp2_with fail
        go_ret
        exact ⟨by first | rfl | (rw [hv.out]; rfl), rfl⟩
end Go.Proofs.YtnmpchojhbmbmaaGreatDoor
