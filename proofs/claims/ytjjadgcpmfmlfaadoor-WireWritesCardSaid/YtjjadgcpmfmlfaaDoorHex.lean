/- sum.Hex. -/
import Derived.Test.YtjjadgcpmfmlfaaDoorBytes
namespace Go.Proofs.YtjjadgcpmfmlfaaDoor
open Go.RowKit

def digits : ByteArray := ⟨#[48, 49, 50, 51, 52, 53, 54, 55, 56, 57, 97, 98, 99, 100, 101, 102]⟩
def hexDig (n : Nat) : UInt8 := digits.data.toList.getD n 0
def hexB (l : List UInt8) : List UInt8 := l.flatMap fun c => [hexDig (c.toNat / 16), hexDig (c.toNat % 16)]
theorem hexB_take_succ (l : List UInt8) (k : Nat) (h : k < l.length) : hexB (l.take (k + 1)) = hexB (l.take k) ++ [hexDig (l[k].toNat / 16), hexDig (l[k].toNat % 16)] := by
  rw [List.take_succ_eq_append_getElem h]; unfold hexB; rw [List.flatMap_append]; rfl
theorem hexB_length (l : List UInt8) : (hexB l).length = 2 * l.length := by
  induction l with
  | nil => rfl
  | cons c l ih =>
    show (hexDig _ :: hexDig _ :: hexB l).length = _
    simp only [List.length_cons, ih]; omega
theorem get_data0 (s : ByteArray) (i : Nat) (h : i < s.size) : s[i] = s.data.toList.getD i 0 := by
  show s.data[i] = _
  have : i < s.data.size := h
  simp only [List.getD_eq_getElem?_getD, Array.getElem?_toList]; rw [Array.getElem?_eq_getElem this]; rfl

theorem digit_at (n : Nat) (h : n < 16) : (⟨#[48, 49, 50, 51, 52, 53, 54, 55, 56, 57, 97, 98, 99, 100, 101, 102]⟩ : ByteArray)[n]'h = hexDig n := get_data0 digits n h

set_option maxRecDepth 100000 in
set_option maxHeartbeats 1000000 in
theorem hex_any (s : ByteArray) (w : World) (hs : s.size ≤ 1048576) :
    Calls Tryd.prog 22 #[.string s] w fun r w' => r = .returned (.string ⟨(hexB s.data.toList).toArray⟩) ∧ ∃ x, w' = ext w x := by
  have hlen : s.data.toList.length = s.size := by rw [Array.length_toList]; rfl
  have HL := Lib.hid hlen
  clear hlen
  go_enter Tryd.func22, Tryd.ntmps22
  go_wp2_with fail
  go_loopw [7, 3] (fun i v wr => ∃ k : Nat, i = .int .i64 k ∧ k ≤ s.size ∧ Hid (ownsB wr w.heap.size v (hexB (s.data.toList.take k))) ∧ Hid (Below w.heap.size w wr)) (fun i _ _ => s.size - (intOf i).toNat)
  case atStart => exact ⟨0, rfl, by omega, ownsB_nil _ _, Below.refl _ _⟩
  case round =>
    obtain ⟨k, rfl, hk, HO, BB⟩ := hrel
    by_cases hlt : k < s.size
    · have hl : k < s.data.toList.length := by rw [HL.out]; exact hlt
      obtain ⟨c, hc⟩ : ∃ c : UInt8, s[k] = c := ⟨_, rfl⟩
      have hs := hexB_take_succ s.data.toList k hl
      rw [show s.data.toList[k] = c from hc] at hs
      have HS := Lib.hid hs
      clear hs
      have hc1 := c.toNat_lt
      have e1 := digit_at (c.toNat / 16) (by omega)
      have e2 := digit_at (c.toNat % 16) (by omega)
      have h1 : (0 : Int) ≤ (c.toNat : Int) / 16 ∧ (c.toNat : Int) / 16 < 16 := by omega
      have h2 : (0 : Int) ≤ (c.toNat : Int) % 16 ∧ (c.toNat : Int) % 16 < 16 := by omega
      generalize hexDig (c.toNat / 16) = d1 at e1 HS
      generalize hexDig (c.toNat % 16) = d2 at e2 HS
      go_wp2_with fail
      refine wp_region_ftail 1 11 (by kernel_rfl) (by kernel_rfl) (fun _ _ _ _ _ h => h) ?_
      simp only [List.take_succ_cons, List.take_zero, List.drop_succ_cons, List.drop_zero]
      repeat (go_big_quiet_step (fail))
      refine wpQuiet_nil ?_
      rintro _ ⟨x, rfl⟩
      have HO1 := Lib.hid (ownsB_ext HO.out x)
      have BB1 := Lib.hid (BB.out.trans ((ext_below wr x).mono BB.out.size))
      generalize ext wr x = w2 at HO1 BB1 ⊢
      go_wp2_with (at_builtin; refine append_bytes [d1, d2] w.heap.size _ (hexB (s.data.toList.take k)) (.tmp 10) (.tmp 21) _ rfl rfl rfl 2 rfl rfl HO1.out (by rw [hexB_length, List.length_take]; simp; omega) BB1.out.size ?_; intro v' w' hO hg)
      rw [← HS.out] at hO
      have HO2 := Lib.hid hO
      have BB2 := Lib.hid (BB1.out.grown hg BB1.out.size (fun g e => ownsB_base HO1.out g e))
      clear hO hg HO BB
      go_wp2_with fail
      go_roundw
      case rel => exact ⟨k + 1, by go_num, by omega, HO2, BB2⟩
      case measure => simp [intOf]; omega
    · obtain rfl : k = s.size := by omega
      have hconv := string_of_owned HO.out
      rw [List.take_of_length_le (by rw [HL.out]; exact Nat.le_refl _)] at hconv
      go_wp2_with fail
      go_ret
      exact ⟨rfl, ext_of BB.out⟩
end Go.Proofs.YtjjadgcpmfmlfaaDoor
