/- oublietteref.in, long, words, Block (the walks). -/
import Derived.Test.YtjjadgcpmfmlfaaDoorProg
import Derived.Test.YtjjadgcpmfmlfaaDoorRefMix
import Derived.Test.YtjjadgcpmfmlfaaDoorNums
import Derived.Test.YtjjadgcpmfmlfaaDoorBlock
namespace Go.Proofs.YtjjadgcpmfmlfaaDoor
open Go.RowKit

set_option maxHeartbeats 400000 in
theorem in_yes (n lo hi : Int) (h1 : lo ≤ n) (h2 : n ≤ hi) (w : World) : Calls Tryd.prog 70 #[.int .i64 n, .int .i64 lo, .int .i64 hi] w fun r w' => r = .returned (.bool true) ∧ w = w' := by
  go_enter Tryd.func70, Tryd.ntmps70
  go_wp2_with fail
  go_ret
  exact ⟨rfl, rfl⟩
set_option maxHeartbeats 400000 in
theorem in_no (n lo hi : Int) (h : ¬ (lo ≤ n ∧ n ≤ hi)) (w : World) : Calls Tryd.prog 70 #[.int .i64 n, .int .i64 lo, .int .i64 hi] w fun r w' => r = .returned (.bool false) ∧ w = w' := by
  have H := Lib.hid h
  clear h
  by_cases h1 : lo ≤ n
  · have h2 : ¬ n ≤ hi := fun h2 => H.out ⟨h1, h2⟩
    go_enter Tryd.func70, Tryd.ntmps70
    go_wp2_with fail
    go_ret
    exact ⟨rfl, rfl⟩
  · go_enter Tryd.func70, Tryd.ntmps70
    go_wp2_with fail
    go_ret
    exact ⟨rfl, rfl⟩
theorem long_any (s : ByteArray) (w : World) : Calls Tryd.prog 13 #[.string s] w fun r w' => r = .returned (.bool (decide ((60 : Int) < s.size))) ∧ w = w' := by
  go_enter Tryd.func13, Tryd.ntmps13
  go_wp2_with fail
  go_ret
  exact ⟨rfl, rfl⟩

/-- The first m words. -/
def wordsL (l : List UInt8) (m : Nat) : List Nat := (List.range m).map fun i => (wordAt l (4 * i)).toNat
theorem wordsL_succ (l : List UInt8) (m : Nat) : wordsL l (m + 1) = wordsL l m ++ [(wordAt l (4 * m)).toNat] := by simp [wordsL, List.range_succ]
theorem wordsL_length (l : List UInt8) (m : Nat) : (wordsL l m).length = m := by simp [wordsL]
theorem info32 : (Tryd.prog.info? 98).map (fun i => (i.zero, i.size, i.bytes)) = some (some (.int .u32 0), 1, 4) := by kernel_rfl
theorem wordAt_sum (l : List UInt8) (k : Nat) : val (wordAt l k) = (l.getD k 0).toNat + 256 * (l.getD (k + 1) 0).toNat + 65536 * (l.getD (k + 2) 0).toNat + 16777216 * (l.getD (k + 3) 0).toNat := by
  unfold wordAt
  have h0 := (l.getD k 0).toNat_lt
  have h1 := (l.getD (k + 1) 0).toNat_lt
  have h2 := (l.getD (k + 2) 0).toNat_lt
  have h3 := (l.getD (k + 3) 0).toNat_lt
  generalize (l.getD k 0).toNat = a at *
  generalize (l.getD (k + 1) 0).toNat = b at *
  generalize (l.getD (k + 2) 0).toNat = c at *
  generalize (l.getD (k + 3) 0).toNat = d at *
  unfold val
  simp only [BitVec.toNat_or, BitVec.toNat_shiftLeft, BitVec.toNat_ofNat]
  have e : ∀ x : Nat, x < 256 → x % 2 ^ 32 = x := fun x hx => Nat.mod_eq_of_lt (Nat.lt_of_lt_of_le hx (by decide))
  rw [e a h0, e b h1, e c h2, e d h3]
  have e1 : b <<< 8 % 2 ^ 32 = b <<< 8 := by rw [Nat.shiftLeft_eq]; exact Nat.mod_eq_of_lt (by show b * 256 < 4294967296; omega)
  have e2 : c <<< 16 % 2 ^ 32 = c <<< 16 := by rw [Nat.shiftLeft_eq]; exact Nat.mod_eq_of_lt (by show c * 65536 < 4294967296; omega)
  have e3 : d <<< 24 % 2 ^ 32 = d <<< 24 := by rw [Nat.shiftLeft_eq]; exact Nat.mod_eq_of_lt (by show d * 16777216 < 4294967296; omega)
  rw [e1, e2, e3]
  have f1 : a ||| b <<< 8 = b <<< 8 + a := by rw [Nat.or_comm]; exact (Nat.shiftLeft_add_eq_or_of_lt (by simpa using h0) b).symm
  have f2 : (b <<< 8 + a) ||| c <<< 16 = c <<< 16 + (b <<< 8 + a) := by
    rw [Nat.or_comm]; exact (Nat.shiftLeft_add_eq_or_of_lt (by rw [Nat.shiftLeft_eq]; show b * 256 + a < 65536; omega) c).symm
  have f3 : (c <<< 16 + (b <<< 8 + a)) ||| d <<< 24 = d <<< 24 + (c <<< 16 + (b <<< 8 + a)) := by
    rw [Nat.or_comm]; exact (Nat.shiftLeft_add_eq_or_of_lt (by rw [Nat.shiftLeft_eq, Nat.shiftLeft_eq]; show c * 65536 + (b * 256 + a) < 16777216; omega) d).symm
  rw [f1, f2, f3, Nat.shiftLeft_eq, Nat.shiftLeft_eq, Nat.shiftLeft_eq]
  show ((d * 16777216 + (c * 65536 + (b * 256 + a)) : Nat) : Int) = _
  omega
def WordsPost (l : List UInt8) (m : Nat) (w : World) (r : Ending) (w' : World) : Prop := ∃ v, r = .returned v ∧ ownsN w' w.heap.size 98 .u32 v (wordsL l m) ∧ ∃ x, w' = ext w x

set_option maxRecDepth 100000 in
set_option maxHeartbeats 2000000 in
theorem words_any (s : ByteArray) (m : Nat) (w : World) (hs : s.size = 4 * m) (hm : m ≤ 1000) : Calls Tryd.prog 71 #[.string s] w (WordsPost s.data.toList m w) := by
  have HS := Lib.hid hs
  have hs1 : s.size ≤ 4 * m := by omega
  have hs2 : 4 * m ≤ s.size := by omega
  clear hs
  go_enter Tryd.func71, Tryd.ntmps71
  go_wp2_with fail
  go_loopw [4, 3] (fun iv lv wr => ∃ q : Nat, q ≤ m ∧ iv = .int .i64 (4 * (q : Int)) ∧ Hid (ownsN wr w.heap.size 98 .u32 lv (wordsL s.data.toList q)) ∧ Hid (Below w.heap.size w wr)) (fun iv _ _ => 4 * m - (intOf iv).toNat)
  case atStart => exact ⟨0, Nat.zero_le _, rfl, Lib.hid (ownsN_nil _ _ _ _), Lib.hid (Below.refl _ _)⟩
  case round =>
    obtain ⟨q, hq, rfl, HO, BB⟩ := hrel
    by_cases hlt : q < m
    · have h3 : 4 * q + 3 < s.size := by omega
      have hw := wordAt_sum s.data.toList (4 * q)
      rw [← get_data s (4 * q) (by omega), ← get_data s (4 * q + 1) (by omega), ← get_data s (4 * q + 2) (by omega), ← get_data s (4 * q + 3) h3] at hw
      have hE : Hid ((((((s[4 * q + 3].toNat : Nat) : Int) * 256 + (s[4 * q + 2].toNat : Nat)) % 4294967296 * 256 + (s[4 * q + 1].toNat : Nat)) % 4294967296 * 256 + (s[4 * q].toNat : Nat)) % 4294967296 = ((wordAt s.data.toList (4 * q)).toNat : Nat)) := Lib.hid (by
        unfold val at hw
        rw [hw]
        have b0 := s[4 * q].toNat_lt
        have b1 := s[4 * q + 1].toNat_lt
        have b2 := s[4 * q + 2].toNat_lt
        have b3 := s[4 * q + 3].toNat_lt
        omega)
      have hc : 4 * (q : Int) + 4 ≤ s.size := by omega
      have c0 : (0 : Int) ≤ 4 * (q : Int) := by omega
      have c1 : 4 * (q : Int) + 3 < s.size := by omega
      clear hw
      go_wp2_with fail
      refine wp_loop_rounds 5 ?_
      rw [rounds_succ]
      go_wp2_with fail
      rw [rounds_succ]
      go_wp2_with fail
      rw [rounds_succ]
      go_wp2_with fail
      rw [rounds_succ]
      go_wp2_with fail
      rw [rounds_succ]
      go_wp2_with (at_builtin; go_must (refine append_num 96 98 .u32 4 Tryd.underlying96 info32 (by decide) (wordAt s.data.toList (4 * q)).toNat w.heap.size _ (wordsL s.data.toList q) (.tmp 27) (.tmp 29) _ rfl rfl rfl 1 rfl hE.out HO.out (by rw [wordsL_length]; omega) BB.out.size ?_); intro v5 w5 hO5 hg5 hat5)
      have hbase := ownsN_base HO.out
      have BB5 := Lib.hid (BB.out.grown hg5 BB.out.size (fun g e => hbase g e))
      rw [← wordsL_succ] at hO5
      have HO5 := Lib.hid hO5
      clear hO5 hg5 hat5 HO BB hbase hE
      go_wp2_with fail
      go_roundw
      case rel => exact ⟨q + 1, by omega, by go_num, HO5, BB5⟩
      case measure => simp [intOf]; omega
    · obtain rfl : q = m := by omega
      have hc : ¬ 4 * (q : Int) + 4 ≤ s.size := by omega
      go_wp2_with fail
      go_ret
      exact ⟨_, rfl, HO.out, ext_of BB.out⟩
end Go.Proofs.YtjjadgcpmfmlfaaDoor
