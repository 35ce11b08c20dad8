/- sum.Num: eight bytes of a number. · sum.Hex. · Package stream: what each of its functions computes (the walks), up to 'quarter'. -/
import Derived.Test.YtnmpchojhbmbmaaGreatDoorProg
import Derived.Test.YtnmpchojhbmbmaaGreatDoorOwn
import Derived.Test.YtnmpchojhbmbmaaGreatDoorBytes
import Derived.Test.YtnmpchojhbmbmaaGreatDoorWords
namespace Go.Proofs.YtnmpchojhbmbmaaGreatDoor
open Go.RowKit

/-- Byte number k of a number, the least first. -/
def byteOf (n : Int) (k : Nat) : UInt8 := UInt8.ofNat (n % 18446744073709551616 / 2 ^ (8 * k)).toNat
theorem byteOf_val (n : Int) (k : Nat) : ((byteOf n k).toNat : Int) = n % 18446744073709551616 / 2 ^ (8 * k) % 256 := by
  unfold byteOf
  rw [UInt8.toNat_ofNat']
  have h : 0 ≤ n % 18446744073709551616 / 2 ^ (8 * k) := Int.ediv_nonneg (Int.emod_nonneg _ (by decide)) (by exact_mod_cast Nat.zero_le _)
  omega
/-- The first k of them, the greatest first. -/
def numTo (n : Int) (k : Nat) : List UInt8 := (List.range k).map fun j => byteOf n (7 - j)
theorem numTo_succ (n : Int) (k : Nat) : numTo n (k + 1) = numTo n k ++ [byteOf n (7 - k)] := by simp [numTo, List.range_succ]
theorem numTo_length (n : Int) (k : Nat) : (numTo n k).length = k := by simp [numTo]
def numB (n : Int) : List UInt8 := numTo n 8

set_option maxRecDepth 100000 in
set_option maxHeartbeats 1000000 in
theorem num_any (n : Int) (w : World) :
    Calls Tryz.prog 26 #[.int .i64 n] w fun r w' => r = .returned (.string ⟨(numB n).toArray⟩) ∧ ∃ x, w' = ext w x := by
  go_enter Tryz.func26, Tryz.ntmps26
  go_wp2_with fail
  go_loopw [4, 3] (fun i v wr => ∃ k : Nat, k ≤ 8 ∧ i = .int .i64 (7 - k) ∧ Hid (ownsC wr w.heap.size v (numTo n k)) ∧ Hid (Below w.heap.size w wr)) (fun i _ _ => (intOf i + 1).toNat)
  case atStart => exact ⟨0, by omega, rfl, Lib.hid (ownsC_nil _ _), Lib.hid (Below.refl _ _)⟩
  case round =>
    obtain ⟨k, hk8, rfl, H, B⟩ := hrel
    by_cases hlt : k < 8
    · have hge : (0 : Int) ≤ 7 - k := by omega
      have hv : Hid (#[Value.int .u8 (IntKind.u64.wrap n / 2 ^ (8 * (7 - k)) % 256)] = (B8 [byteOf n (7 - k)]).toArray) := by
        apply Lib.hid; simp only [B8, List.map_cons, List.map_nil, byteOf_val]; rw [IntKind.wrap_u64]
      go_wp2_with (at_builtin; refine append_own [byteOf n (7 - k)] w.heap.size _ (numTo n k) (.tmp 9) (.tmp 16) _ rfl rfl rfl 1 1 _ rfl rfl rfl (by simp) hv.out H.out (by rw [numTo_length]; simp; omega) B.out.size ?_; intro v' w' hO hg _)
      rw [← numTo_succ] at hO
      have B2 := Lib.hid (B.out.grown hg B.out.size (fun g e => ownsC_base H.out g e))
      have H2 := Lib.hid hO
      clear hO hg H B hv
      go_wp2_with fail
      go_roundw
      case rel => exact ⟨k + 1, by omega, by go_num, H2, B2⟩
      case measure => simp [intOf]; omega
    · obtain rfl : k = 8 := by omega
      rw [show (7 : Int) - ((8 : Nat) : Int) = -1 from rfl]
      have hconv := string_of_own H.out
      go_wp2_with fail
      go_ret
      exact ⟨rfl, ext_of B.out⟩
end Go.Proofs.YtnmpchojhbmbmaaGreatDoor
namespace Go.Proofs.YtnmpchojhbmbmaaGreatDoor
open Go.RowKit

def digits : ByteArray := ⟨#[48, 49, 50, 51, 52, 53, 54, 55, 56, 57, 97, 98, 99, 100, 101, 102]⟩
def hexDig (n : Nat) : UInt8 := digits.data.toList.getD n 0
def hexB (l : List UInt8) : List UInt8 := l.flatMap fun c => [hexDig (c.toNat / 16), hexDig (c.toNat % 16)]
theorem hexB_take_succ (l : List UInt8) (k : Nat) (h : k < l.length) : hexB (l.take (k + 1)) = hexB (l.take k) ++ [hexDig (l[k].toNat / 16), hexDig (l[k].toNat % 16)] := by
  rw [List.take_succ_eq_append_getElem h]; unfold hexB; rw [List.flatMap_append]; rfl
theorem hexB_length (l : List UInt8) : (hexB l).length = 2 * l.length := by
  induction l with
  | nil => rfl
  | cons c l ih =>
    show (hexDig _ :: hexDig _ :: hexB l).length = _
    simp only [List.length_cons, ih]; omega
theorem digit_at (n : Nat) (h : n < 16) : (⟨#[48, 49, 50, 51, 52, 53, 54, 55, 56, 57, 97, 98, 99, 100, 101, 102]⟩ : ByteArray)[n]'h = hexDig n := get_data0 digits n h

end Go.Proofs.YtnmpchojhbmbmaaGreatDoor
namespace Go.Proofs.YtnmpchojhbmbmaaGreatDoor
open Go.RowKit

def addAt (A : Nat → BitVec 32) (a b : Nat) : Nat → BitVec 32 := upd A a (A a + A b)
def mixAt (A : Nat → BitVec 32) (d a n : Nat) : Nat → BitVec 32 := upd A d (rotl (A d ^^^ A a) n)
/-- A quarter of a round. -/
def quarter (A : Nat → BitVec 32) (a b c d : Nat) : Nat → BitVec 32 :=
  mixAt (addAt (mixAt (addAt (mixAt (addAt (mixAt (addAt A a b) d a 16) c d) b c 12) a b) d a 8) c d) b c 7
/-- Four bytes, the least first. -/
def wordAt (l : List UInt8) (k : Nat) : BitVec 32 :=
  BitVec.ofNat 32 (l.getD k 0).toNat ||| BitVec.ofNat 32 (l.getD (k + 1) 0).toNat <<< 8 ||| BitVec.ofNat 32 (l.getD (k + 2) 0).toNat <<< 16 ||| BitVec.ofNat 32 (l.getD (k + 3) 0).toNat <<< 24

theorem byte32 (b : UInt8) : (b.toNat : Int) = val (BitVec.ofNat 32 b.toNat) := by
  have := b.toNat_lt
  unfold val
  rw [BitVec.toNat_ofNat, Nat.mod_eq_of_lt (by omega)]
theorem get_data (s : ByteArray) (i : Nat) (h : i < s.size) : s[i] = s.data.toList.getD i 0 := by
  show s.data[i] = _
  have : i < s.data.size := h
  simp only [List.getD_eq_getElem?_getD, Array.getElem?_toList]; rw [Array.getElem?_eq_getElem this]; rfl
theorem wordAt_walk (s : ByteArray) (h : 3 < s.size) :
    bits .or .u32 (bits .or .u32 (bits .or .u32 ((s[0].toNat : Nat) : Int) (((s[1].toNat : Nat) : Int) * 256 % 4294967296)) (((s[2].toNat : Nat) : Int) * 65536 % 4294967296)) (((s[3].toNat : Nat) : Int) * 16777216 % 4294967296) =
      val (wordAt s.data.toList 0) := by
  rw [byte32 s[0], byte32 s[1], byte32 s[2], byte32 s[3]]
  have e8 := shl32 (BitVec.ofNat 32 s[1].toNat) 8
  have e16 := shl32 (BitVec.ofNat 32 s[2].toNat) 16
  have e24 := shl32 (BitVec.ofNat 32 s[3].toNat) 24
  simp only [Int.reducePow] at e8 e16 e24
  rw [e8, e16, e24, or32, or32, or32]
  unfold wordAt
  rw [get_data s 0 (by omega), get_data s 1 (by omega), get_data s 2 (by omega), get_data s 3 h]

/-! ### quarter: eight statements, each a region that draws its order -/
end Go.Proofs.YtnmpchojhbmbmaaGreatDoor
