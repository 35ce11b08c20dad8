/- sum.Num: eight bytes of a number. -/
import Derived.Test.YtjjadgcpmfmlfaaDoorProg
import Derived.Test.YtjjadgcpmfmlfaaDoorOwn
namespace Go.Proofs.YtjjadgcpmfmlfaaDoor
open Go.RowKit

/-- Byte number k of a number, the least first. -/
def byteOf (n : Int) (k : Nat) : UInt8 := UInt8.ofNat (n % 18446744073709551616 / 2 ^ (8 * k)).toNat
theorem byteOf_val (n : Int) (k : Nat) : ((byteOf n k).toNat : Int) = n % 18446744073709551616 / 2 ^ (8 * k) % 256 := by
  unfold byteOf
  rw [UInt8.toNat_ofNat']
  have h : 0 ≤ n % 18446744073709551616 / 2 ^ (8 * k) := Int.ediv_nonneg (Int.emod_nonneg _ (by decide)) (by exact_mod_cast Nat.zero_le _)
  omega
/-- The first k of them, the greatest first. -/
def numTo (n : Int) (k : Nat) : List UInt8 := (List.range k).map fun j => byteOf n (7 - j)
theorem numTo_succ (n : Int) (k : Nat) : numTo n (k + 1) = numTo n k ++ [byteOf n (7 - k)] := by simp [numTo, List.range_succ]
theorem numTo_length (n : Int) (k : Nat) : (numTo n k).length = k := by simp [numTo]
def numB (n : Int) : List UInt8 := numTo n 8

set_option maxRecDepth 100000 in
set_option maxHeartbeats 1000000 in
theorem num_any (n : Int) (w : World) :
    Calls Tryd.prog 24 #[.int .i64 n] w fun r w' => r = .returned (.string ⟨(numB n).toArray⟩) ∧ ∃ x, w' = ext w x := by
  go_enter Tryd.func24, Tryd.ntmps24
  go_wp2_with fail
  go_loopw [4, 3] (fun i v wr => ∃ k : Nat, k ≤ 8 ∧ i = .int .i64 (7 - k) ∧ Hid (ownsC wr w.heap.size v (numTo n k)) ∧ Hid (Below w.heap.size w wr)) (fun i _ _ => (intOf i + 1).toNat)
  case atStart => exact ⟨0, by omega, rfl, Lib.hid (ownsC_nil _ _), Lib.hid (Below.refl _ _)⟩
  case round =>
    obtain ⟨k, hk8, rfl, H, B⟩ := hrel
    by_cases hlt : k < 8
    · have hge : (0 : Int) ≤ 7 - k := by omega
      have hv : Hid (#[Value.int .u8 (IntKind.u64.wrap n / 2 ^ (8 * (7 - k)) % 256)] = (B8 [byteOf n (7 - k)]).toArray) := by
        apply Lib.hid; simp only [B8, List.map_cons, List.map_nil, byteOf_val]; rw [IntKind.wrap_u64]
      go_wp2_with (at_builtin; refine append_own [byteOf n (7 - k)] w.heap.size _ (numTo n k) (.tmp 9) (.tmp 16) _ rfl rfl rfl 1 1 _ rfl rfl rfl (by simp) hv.out H.out (by rw [numTo_length]; simp; omega) B.out.size ?_; intro v' w' hO hg _)
      rw [← numTo_succ] at hO
      have B2 := Lib.hid (B.out.grown hg B.out.size (fun g e => ownsC_base H.out g e))
      have H2 := Lib.hid hO
      clear hO hg H B hv
      go_wp2_with fail
      go_roundw
      case rel => exact ⟨k + 1, by omega, by go_num, H2, B2⟩
      case measure => simp [intOf]; omega
    · obtain rfl : k = 8 := by omega
      rw [show (7 : Int) - ((8 : Nat) : Int) = -1 from rfl]
      have hconv := string_of_own H.out
      go_wp2_with fail
      go_ret
      exact ⟨rfl, ext_of B.out⟩
end Go.Proofs.YtjjadgcpmfmlfaaDoor
