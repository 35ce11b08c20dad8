/- oublietteref.in, long, words, Block (the walks). -/
import Derived.Test.YtnmpchojhbmbmaaGreatDoorProg
import Derived.Test.YtnmpchojhbmbmaaGreatDoorG12
import Derived.Test.YtnmpchojhbmbmaaGreatDoorNums
import Derived.Test.YtnmpchojhbmbmaaGreatDoorG5
namespace Go.Proofs.YtnmpchojhbmbmaaGreatDoor
open Go.RowKit

set_option maxHeartbeats 400000 in
theorem in_yes (n lo hi : Int) (h1 : lo ≤ n) (h2 : n ≤ hi) (w : World) : Calls Tryz.prog 27 #[.int .i64 n, .int .i64 lo, .int .i64 hi] w fun r w' => r = .returned (.bool true) ∧ w = w' := by
  go_enter Tryz.func27, Tryz.ntmps27
  go_wp2_with fail
  go_ret
  exact ⟨rfl, rfl⟩
set_option maxHeartbeats 400000 in
theorem in_no (n lo hi : Int) (h : ¬ (lo ≤ n ∧ n ≤ hi)) (w : World) : Calls Tryz.prog 27 #[.int .i64 n, .int .i64 lo, .int .i64 hi] w fun r w' => r = .returned (.bool false) ∧ w = w' := by
  have H := Lib.hid h
  clear h
  by_cases h1 : lo ≤ n
  · have h2 : ¬ n ≤ hi := fun h2 => H.out ⟨h1, h2⟩
    go_enter Tryz.func27, Tryz.ntmps27
    go_wp2_with fail
    go_ret
    exact ⟨rfl, rfl⟩
  · go_enter Tryz.func27, Tryz.ntmps27
    go_wp2_with fail
    go_ret
    exact ⟨rfl, rfl⟩
theorem long_any (s : ByteArray) (w : World) : Calls Tryz.prog 4 #[.string s] w fun r w' => r = .returned (.bool (decide ((60 : Int) < s.size))) ∧ w = w' := by
  go_enter Tryz.func4, Tryz.ntmps4
  go_wp2_with fail
  go_ret
  exact ⟨rfl, rfl⟩

/-- The first m words. -/
def wordsL (l : List UInt8) (m : Nat) : List Nat := (List.range m).map fun i => (wordAt l (4 * i)).toNat
theorem wordsL_succ (l : List UInt8) (m : Nat) : wordsL l (m + 1) = wordsL l m ++ [(wordAt l (4 * m)).toNat] := by simp [wordsL, List.range_succ]
theorem wordsL_length (l : List UInt8) (m : Nat) : (wordsL l m).length = m := by simp [wordsL]
theorem info32 : (Tryz.prog.info? 52).map (fun i => (i.zero, i.size, i.bytes)) = some (some (.int .u32 0), 1, 4) := by kernel_rfl
theorem wordAt_sum (l : List UInt8) (k : Nat) : val (wordAt l k) = (l.getD k 0).toNat + 256 * (l.getD (k + 1) 0).toNat + 65536 * (l.getD (k + 2) 0).toNat + 16777216 * (l.getD (k + 3) 0).toNat := by
  unfold wordAt
  have h0 := (l.getD k 0).toNat_lt
  have h1 := (l.getD (k + 1) 0).toNat_lt
  have h2 := (l.getD (k + 2) 0).toNat_lt
  have h3 := (l.getD (k + 3) 0).toNat_lt
  generalize (l.getD k 0).toNat = a at *
  generalize (l.getD (k + 1) 0).toNat = b at *
  generalize (l.getD (k + 2) 0).toNat = c at *
  generalize (l.getD (k + 3) 0).toNat = d at *
  unfold val
  simp only [BitVec.toNat_or, BitVec.toNat_shiftLeft, BitVec.toNat_ofNat]
  have e : ∀ x : Nat, x < 256 → x % 2 ^ 32 = x := fun x hx => Nat.mod_eq_of_lt (Nat.lt_of_lt_of_le hx (by decide))
  rw [e a h0, e b h1, e c h2, e d h3]
  have e1 : b <<< 8 % 2 ^ 32 = b <<< 8 := by rw [Nat.shiftLeft_eq]; exact Nat.mod_eq_of_lt (by show b * 256 < 4294967296; omega)
  have e2 : c <<< 16 % 2 ^ 32 = c <<< 16 := by rw [Nat.shiftLeft_eq]; exact Nat.mod_eq_of_lt (by show c * 65536 < 4294967296; omega)
  have e3 : d <<< 24 % 2 ^ 32 = d <<< 24 := by rw [Nat.shiftLeft_eq]; exact Nat.mod_eq_of_lt (by show d * 16777216 < 4294967296; omega)
  rw [e1, e2, e3]
  have f1 : a ||| b <<< 8 = b <<< 8 + a := by rw [Nat.or_comm]; exact (Nat.shiftLeft_add_eq_or_of_lt (by simpa using h0) b).symm
  have f2 : (b <<< 8 + a) ||| c <<< 16 = c <<< 16 + (b <<< 8 + a) := by
    rw [Nat.or_comm]; exact (Nat.shiftLeft_add_eq_or_of_lt (by rw [Nat.shiftLeft_eq]; show b * 256 + a < 65536; omega) c).symm
  have f3 : (c <<< 16 + (b <<< 8 + a)) ||| d <<< 24 = d <<< 24 + (c <<< 16 + (b <<< 8 + a)) := by
    rw [Nat.or_comm]; exact (Nat.shiftLeft_add_eq_or_of_lt (by rw [Nat.shiftLeft_eq, Nat.shiftLeft_eq]; show c * 65536 + (b * 256 + a) < 16777216; omega) d).symm
  rw [f1, f2, f3, Nat.shiftLeft_eq, Nat.shiftLeft_eq, Nat.shiftLeft_eq]
  show ((d * 16777216 + (c * 65536 + (b * 256 + a)) : Nat) : Int) = _
  omega
def WordsPost (l : List UInt8) (m : Nat) (w : World) (r : Ending) (w' : World) : Prop := ∃ v, r = .returned v ∧ ownsN w' w.heap.size 52 .u32 v (wordsL l m) ∧ ∃ x, w' = ext w x

end Go.Proofs.YtnmpchojhbmbmaaGreatDoor
