/- oublietteref.in, long, words, Block (the walks). · sum.Hex. · oublietteref.Name (the walk). -/
import Derived.Test.YtcbcknfhblamfaaGreatDoorProg
import Derived.Test.YtcbcknfhblamfaaGreatDoorG21
import Derived.Test.YtcbcknfhblamfaaGreatDoorNums
import Derived.Test.YtcbcknfhblamfaaGreatDoorG12
import Derived.Test.YtcbcknfhblamfaaGreatDoorG11
import Derived.Test.YtcbcknfhblamfaaGreatDoorNameL
namespace Go.Proofs.YtcbcknfhblamfaaGreatDoor
open Go.RowKit

set_option maxHeartbeats 400000 in
theorem in_yes (n lo hi : Int) (h1 : lo ≤ n) (h2 : n ≤ hi) (w : World) : Calls Tryz.prog 38 #[.int .i64 n, .int .i64 lo, .int .i64 hi] w fun r w' => r = .returned (.bool true) ∧ w = w' := by
  go_enter Tryz.func38, Tryz.ntmps38
  go_wp2_with fail
  go_ret
  exact ⟨rfl, rfl⟩
set_option maxHeartbeats 400000 in
theorem in_no (n lo hi : Int) (h : ¬ (lo ≤ n ∧ n ≤ hi)) (w : World) : Calls Tryz.prog 38 #[.int .i64 n, .int .i64 lo, .int .i64 hi] w fun r w' => r = .returned (.bool false) ∧ w = w' := by
  have H := Lib.hid h
  clear h
  by_cases h1 : lo ≤ n
  · have h2 : ¬ n ≤ hi := fun h2 => H.out ⟨h1, h2⟩
    go_enter Tryz.func38, Tryz.ntmps38
    go_wp2_with fail
    go_ret
    exact ⟨rfl, rfl⟩
  · go_enter Tryz.func38, Tryz.ntmps38
    go_wp2_with fail
    go_ret
    exact ⟨rfl, rfl⟩
theorem long_any (s : ByteArray) (w : World) : Calls Tryz.prog 4 #[.string s] w fun r w' => r = .returned (.bool (decide ((60 : Int) < s.size))) ∧ w = w' := by
  go_enter Tryz.func4, Tryz.ntmps4
  go_wp2_with fail
  go_ret
  exact ⟨rfl, rfl⟩

/-- The first m words. -/
def wordsL (l : List UInt8) (m : Nat) : List Nat := (List.range m).map fun i => (wordAt l (4 * i)).toNat
theorem wordsL_succ (l : List UInt8) (m : Nat) : wordsL l (m + 1) = wordsL l m ++ [(wordAt l (4 * m)).toNat] := by simp [wordsL, List.range_succ]
theorem wordsL_length (l : List UInt8) (m : Nat) : (wordsL l m).length = m := by simp [wordsL]
theorem info32 : (Tryz.prog.info? 97).map (fun i => (i.zero, i.size, i.bytes)) = some (some (.int .u32 0), 1, 4) := by kernel_rfl
theorem wordAt_sum (l : List UInt8) (k : Nat) : val (wordAt l k) = (l.getD k 0).toNat + 256 * (l.getD (k + 1) 0).toNat + 65536 * (l.getD (k + 2) 0).toNat + 16777216 * (l.getD (k + 3) 0).toNat := by
  unfold wordAt
  have h0 := (l.getD k 0).toNat_lt
  have h1 := (l.getD (k + 1) 0).toNat_lt
  have h2 := (l.getD (k + 2) 0).toNat_lt
  have h3 := (l.getD (k + 3) 0).toNat_lt
  generalize (l.getD k 0).toNat = a at *
  generalize (l.getD (k + 1) 0).toNat = b at *
  generalize (l.getD (k + 2) 0).toNat = c at *
  generalize (l.getD (k + 3) 0).toNat = d at *
  unfold val
  simp only [BitVec.toNat_or, BitVec.toNat_shiftLeft, BitVec.toNat_ofNat]
  have e : ∀ x : Nat, x < 256 → x % 2 ^ 32 = x := fun x hx => Nat.mod_eq_of_lt (Nat.lt_of_lt_of_le hx (by decide))
  rw [e a h0, e b h1, e c h2, e d h3]
  have e1 : b <<< 8 % 2 ^ 32 = b <<< 8 := by rw [Nat.shiftLeft_eq]; exact Nat.mod_eq_of_lt (by show b * 256 < 4294967296; omega)
  have e2 : c <<< 16 % 2 ^ 32 = c <<< 16 := by rw [Nat.shiftLeft_eq]; exact Nat.mod_eq_of_lt (by show c * 65536 < 4294967296; omega)
  have e3 : d <<< 24 % 2 ^ 32 = d <<< 24 := by rw [Nat.shiftLeft_eq]; exact Nat.mod_eq_of_lt (by show d * 16777216 < 4294967296; omega)
  rw [e1, e2, e3]
  have f1 : a ||| b <<< 8 = b <<< 8 + a := by rw [Nat.or_comm]; exact (Nat.shiftLeft_add_eq_or_of_lt (by simpa using h0) b).symm
  have f2 : (b <<< 8 + a) ||| c <<< 16 = c <<< 16 + (b <<< 8 + a) := by
    rw [Nat.or_comm]; exact (Nat.shiftLeft_add_eq_or_of_lt (by rw [Nat.shiftLeft_eq]; show b * 256 + a < 65536; omega) c).symm
  have f3 : (c <<< 16 + (b <<< 8 + a)) ||| d <<< 24 = d <<< 24 + (c <<< 16 + (b <<< 8 + a)) := by
    rw [Nat.or_comm]; exact (Nat.shiftLeft_add_eq_or_of_lt (by rw [Nat.shiftLeft_eq, Nat.shiftLeft_eq]; show c * 65536 + (b * 256 + a) < 16777216; omega) d).symm
  rw [f1, f2, f3, Nat.shiftLeft_eq, Nat.shiftLeft_eq, Nat.shiftLeft_eq]
  show ((d * 16777216 + (c * 65536 + (b * 256 + a)) : Nat) : Int) = _
  omega
def WordsPost (l : List UInt8) (m : Nat) (w : World) (r : Ending) (w' : World) : Prop := ∃ v, r = .returned v ∧ ownsN w' w.heap.size 97 .u32 v (wordsL l m) ∧ ∃ x, w' = ext w x

end Go.Proofs.YtcbcknfhblamfaaGreatDoor
namespace Go.Proofs.YtcbcknfhblamfaaGreatDoor
open Go.RowKit

def digits : ByteArray := ⟨#[48, 49, 50, 51, 52, 53, 54, 55, 56, 57, 97, 98, 99, 100, 101, 102]⟩
def hexDig (n : Nat) : UInt8 := digits.data.toList.getD n 0
def hexB (l : List UInt8) : List UInt8 := l.flatMap fun c => [hexDig (c.toNat / 16), hexDig (c.toNat % 16)]
theorem hexB_take_succ (l : List UInt8) (k : Nat) (h : k < l.length) : hexB (l.take (k + 1)) = hexB (l.take k) ++ [hexDig (l[k].toNat / 16), hexDig (l[k].toNat % 16)] := by
  rw [List.take_succ_eq_append_getElem h]; unfold hexB; rw [List.flatMap_append]; rfl
theorem hexB_length (l : List UInt8) : (hexB l).length = 2 * l.length := by
  induction l with
  | nil => rfl
  | cons c l ih =>
    show (hexDig _ :: hexDig _ :: hexB l).length = _
    simp only [List.length_cons, ih]; omega
theorem digit_at (n : Nat) (h : n < 16) : (⟨#[48, 49, 50, 51, 52, 53, 54, 55, 56, 57, 97, 98, 99, 100, 101, 102]⟩ : ByteArray)[n]'h = hexDig n := get_data0 digits n h

end Go.Proofs.YtcbcknfhblamfaaGreatDoor
namespace Go.Proofs.YtcbcknfhblamfaaGreatDoor
open Go.RowKit

/-- What stands at a place of a name. -/
def plaB (l : List UInt8) (i : Nat) : Bool := letterB (l.getD i 0) || (decide (i ≠ 0) && digitB (l.getD i 0))
theorem nameB_is (l : List UInt8) : nameB l = (decide (1 ≤ l.length ∧ l.length ≤ 10) && decide (∀ i, i < l.length → plaB l i = true)) := by
  cases l with
  | nil => rfl
  | cons a l =>
    rw [Bool.eq_iff_iff]
    unfold nameB
    simp only [Bool.and_eq_true, decide_eq_true_eq, List.isEmpty_cons, Bool.not_false, List.headD_cons, List.all_eq_true, true_and]
    constructor
    · rintro ⟨⟨h1, h2⟩, h3⟩
      refine ⟨⟨by simp, h1⟩, fun i hi => ?_⟩
      unfold plaB
      cases i with
      | zero => rw [List.getD_cons_zero, h2]; rfl
      | succ i =>
        have hm : (a :: l).getD (i + 1) 0 ∈ a :: l := by
          rw [List.getD_eq_getElem?_getD, List.getElem?_eq_getElem hi]; exact List.getElem_mem hi
        have := h3 _ hm
        simpa using this
    · rintro ⟨⟨_, h1⟩, h2⟩
      refine ⟨⟨h1, ?_⟩, fun x hx => ?_⟩
      · have := h2 0 (by simp)
        simpa [plaB] using this
      · obtain ⟨i, hi, rfl⟩ := List.getElem_of_mem hx
        have := h2 i hi
        unfold plaB at this
        rw [List.getD_eq_getElem?_getD, List.getElem?_eq_getElem hi, Option.getD_some] at this
        rw [Bool.or_eq_true, Bool.and_eq_true] at this
        rw [Bool.or_eq_true]
        rcases this with h | h
        · exact .inl h
        · exact .inr h.2
theorem name_bad {l : List UInt8} {i : Nat} (hi : i < l.length) (h : plaB l i = false) : nameB l = false := by
  rw [nameB_is]
  rw [show decide (∀ i, i < l.length → plaB l i = true) = false from decide_eq_false (fun hh => by rw [hh i hi] at h; exact absurd h (by decide)), Bool.and_false]
theorem name_end {l : List UInt8} (h : ∀ i, i < l.length → plaB l i = true) : nameB l = decide (1 ≤ l.length ∧ l.length ≤ 10) := by
  rw [nameB_is, show decide (∀ i, i < l.length → plaB l i = true) = true by rw [decide_eq_true_iff]; exact h, Bool.and_true]

set_option maxRecDepth 100000 in
set_option maxHeartbeats 2000000 in
theorem rname_any (s : ByteArray) (w : World) (hs : s.size ≤ 1048576) :
    Calls Tryz.prog 25 #[.string s] w fun r w' => r = .returned (.bool (nameB s.data.toList)) ∧ w = w' := by
  have HL : Hid (s.data.toList.length = s.size) := Lib.hid (by rw [Array.length_toList]; rfl)
  go_enter Tryz.func25, Tryz.ntmps25
  go_wp2_with fail
  go_loopw [7] (fun iv wr => ∃ k : Nat, k ≤ s.size ∧ iv = .int .i64 k ∧ Hid (∀ i, i < k → plaB s.data.toList i = true) ∧ wr = w) (fun iv _ => s.size - (intOf iv).toNat)
  case atStart => exact ⟨0, Nat.zero_le _, rfl, Lib.hid (fun i hi => absurd hi (Nat.not_lt_zero _)), rfl⟩
  case round =>
    obtain ⟨k, hk, rfl, HQ, rfl⟩ := hrel
    by_cases hlt : k < s.size
    · have hgd := get_data0 s k hlt
      have HP : Hid (plaB s.data.toList k = (letterB (s[k]'hlt) || (decide (k ≠ 0) && digitB (s[k]'hlt)))) := Lib.hid (by unfold plaB; rw [hgd])
      have HN : Hid (plaB s.data.toList k = false → nameB s.data.toList = false) := Lib.hid (fun h => name_bad (by rw [HL.out]; exact hlt) h)
      have HS : Hid (plaB s.data.toList k = true → ∀ i, i < k + 1 → plaB s.data.toList i = true) := Lib.hid (fun h i hi => by
        by_cases e : i = k
        · rw [e]; exact h
        · exact HQ.out i (by omega))
      clear hgd HQ
      by_cases a : (97 : Int) ≤ (s[k]'hlt).toNat
      · by_cases b : ((s[k]'hlt).toNat : Int) ≤ 122
        · have hp : plaB s.data.toList k = true := by rw [HP.out, show letterB (s[k]'hlt) = true by unfold letterB; rw [decide_eq_true_iff]; omega]; rfl
          have HS2 := Lib.hid (HS.out hp)
          clear HP HN HS hp
          go_wp2_with fail
          go_roundw
          case rel => exact ⟨k + 1, by omega, by go_num, HS2, by first | rfl | trivial⟩
          case measure => simp [intOf]; omega
        · have hl : letterB (s[k]'hlt) = false := by unfold letterB; rw [decide_eq_false_iff_not]; omega
          have hd : digitB (s[k]'hlt) = false := by unfold digitB; rw [decide_eq_false_iff_not]; omega
          have hp : nameB s.data.toList = false := HN.out (by rw [HP.out, hl, hd]; simp)
          have d1 : (48 : Int) ≤ (s[k]'hlt).toNat := by omega
          have d2 : ¬ ((s[k]'hlt).toNat : Int) ≤ 57 := by omega
          have hp := Lib.hid hp
          clear HP HN HS hl hd
          by_cases z : k = 0
          · have hz : ((k : Int) == 0) = true := by rw [beq_iff_eq]; omega
            clear z
            go_wp2_with fail
            go_ret
            exact ⟨by first | rfl | (rw [hp.out]; rfl), rfl⟩
          · have hz : ((k : Int) == 0) = false := by rw [beq_eq_false_iff_ne]; omega
            clear z
            go_wp2_with fail
            go_ret
            exact ⟨by first | rfl | (rw [hp.out]; rfl), rfl⟩
      · have hl : letterB (s[k]'hlt) = false := by unfold letterB; rw [decide_eq_false_iff_not]; omega
        by_cases z : k = 0
        · have hz : ((k : Int) == 0) = true := by rw [beq_iff_eq]; omega
          have hp : nameB s.data.toList = false := HN.out (by rw [HP.out, hl, show decide (k ≠ 0) = false by simp [z]]; rfl)
          have hp := Lib.hid hp
          clear HP HN HS hl z
          go_wp2_with fail
          go_ret
          exact ⟨by first | rfl | (rw [hp.out]; rfl), rfl⟩
        · have hz : ((k : Int) == 0) = false := by rw [beq_eq_false_iff_ne]; omega
          by_cases d1 : (48 : Int) ≤ (s[k]'hlt).toNat
          · by_cases d2 : ((s[k]'hlt).toNat : Int) ≤ 57
            · have hp : plaB s.data.toList k = true := by rw [HP.out, hl, show digitB (s[k]'hlt) = true by unfold digitB; rw [decide_eq_true_iff]; omega]; simpa using z
              have HS2 := Lib.hid (HS.out hp)
              clear HP HN HS hl hp z
              go_wp2_with fail
              go_roundw
              case rel => exact ⟨k + 1, by omega, by go_num, HS2, by first | rfl | trivial⟩
              case measure => simp [intOf]; omega
            · have hp : nameB s.data.toList = false := HN.out (by rw [HP.out, hl, show digitB (s[k]'hlt) = false by unfold digitB; rw [decide_eq_false_iff_not]; omega]; simp)
              have hp := Lib.hid hp
              clear HP HN HS hl z
              go_wp2_with fail
              go_ret
              exact ⟨by first | rfl | (rw [hp.out]; rfl), rfl⟩
          · have hp : nameB s.data.toList = false := HN.out (by rw [HP.out, hl, show digitB (s[k]'hlt) = false by unfold digitB; rw [decide_eq_false_iff_not]; omega]; simp)
            have hp := Lib.hid hp
            clear HP HN HS hl z
            go_wp2_with fail
            go_ret
            exact ⟨by first | rfl | (rw [hp.out]; rfl), rfl⟩
    · obtain rfl : k = s.size := by omega
      have hE := name_end (l := s.data.toList) (by rw [HL.out]; exact HQ.out)
      rw [HL.out] at hE
      have hE := Lib.hid hE
      clear HQ
      by_cases h1 : 1 ≤ s.size ∧ s.size ≤ 10
      · have hv : nameB s.data.toList = true := by rw [hE.out]; exact decide_eq_true h1
        have hv := Lib.hid hv
        go_wp2_with fail
        refine (in_yes _ _ _ (by omega) (by omega) _).mono ?_
        rintro _ w1 ⟨rfl, rfl⟩
        go_wp2_with fail
        go_ret
        exact ⟨by first | rfl | (rw [hv.out]; rfl), rfl⟩
      · have hv : nameB s.data.toList = false := by rw [hE.out]; exact decide_eq_false h1
        have hv := Lib.hid hv
        go_wp2_with fail
        refine (in_no _ _ _ (by omega) _).mono ?_
        rintro _ w1 ⟨rfl, rfl⟩
        go_wp2_with fail
        go_ret
        exact ⟨by first | rfl | (rw [hv.out]; rfl), rfl⟩
end Go.Proofs.YtcbcknfhblamfaaGreatDoor
