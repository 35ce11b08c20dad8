/- oubliettekeep.streamed: a block that is known. -/
import Derived.Test.YtpjmfcncjoeebaaXor
import Derived.Test.YtpjmfcncjoeebaaHex
namespace Go.Proofs.Ytpjmfcncjoeebaa
open Go.RowKit

def firstBytes (k : Nat) : List UInt8 := (List.range k).map fun i => UInt8.ofNat i
theorem firstBytes_succ (k : Nat) : firstBytes (k + 1) = firstBytes k ++ [UInt8.ofNat k] := by simp [firstBytes, List.range_succ]
theorem firstBytes_length (k : Nat) : (firstBytes k).length = k := by simp [firstBytes]
def knownBlock : List UInt8 := block (firstBytes 32) 1 [0, 0, 0, 9, 0, 0, 0, 74, 0, 0, 0, 0]
theorem known_a : hexB (knownBlock.take 16) = [49, 48, 102, 49, 101, 55, 101, 52, 100, 49, 51, 98, 53, 57, 49, 53, 53, 48, 48, 102, 100, 100, 49, 102, 97, 51, 50, 48, 55, 49, 99, 52] := by decide +kernel
theorem known_b : hexB (knownBlock.drop 60) = [97, 50, 53, 48, 51, 99, 52, 101] := by decide +kernel
/-- 'string([]byte{b})' -/
theorem string_of_one (w : World) (b : UInt8) : (convert 29 9 (.slice (some ⟨w.heap.size, 0, none⟩) 1 1)).run Try.prog (w.alloc (.cells #[.int .u8 (b.toNat : Int)] 5)) =
    .ok (.string ⟨#[b]⟩) (w.alloc (.cells #[.int .u8 (b.toNat : Int)] 5)) := by
  have h : (w.alloc (.cells (rowB [b] #[]) 5)).heap[w.heap.size]? = some (.cells (rowB [b] #[]) 5 (0, 0)) := heap_alloc_at _ _
  have := string_of_rowB (cap := 1) h
  exact this

set_option maxRecDepth 100000 in
set_option maxHeartbeats 1000000 in
theorem streamed_any (w : World) :
    Calls Try.prog 4 #[] w fun r w' => r = .returned (.bool true) ∧ ∃ x, w' = ext w x := by
  go_enter Try.func4, Try.ntmps4
  go_wp2_with fail
  go_loopw [5, 1] (fun i v wr => ∃ k : Nat, i = .int .i64 k ∧ k ≤ 32 ∧ v = .string ⟨(firstBytes k).toArray⟩ ∧ Hid (Below w.heap.size w wr)) (fun i _ _ => 32 - (intOf i).toNat)
  case atStart => exact ⟨0, rfl, by omega, rfl, Below.refl _ _⟩
  case round =>
    obtain ⟨k, rfl, hk, rfl, BB⟩ := hrel
    by_cases hlt : k < 32
    · have hb : ((UInt8.ofNat k).toNat : Int) = (k : Int) := by simp only [UInt8.toNat_ofNat']; omega
      have hone := string_of_one wr (UInt8.ofNat k)
      rw [hb] at hone
      clear hb
      have hl : (firstBytes k).length ≤ 32 := by rw [firstBytes_length]; exact hk
      go_wp2_with fail
      go_roundw
      case rel => exact ⟨k + 1, by go_num, by omega, by rw [firstBytes_succ, ← str_append], BB.out.alloc BB.out.size _⟩
      case measure => simp [intOf]; omega
    · obtain rfl : k = 32 := by omega
      go_wp2_with fail
      refine (block_any _ _ 1 _ (by simp [ByteArray.size, firstBytes_length]) rfl (by omega) _ rfl).mono ?_
      rintro _ _ ⟨rfl, x, rfl⟩
      rw [show block (⟨(firstBytes 32).toArray⟩ : ByteArray).data.toList 1 (⟨#[0, 0, 0, 9, 0, 0, 0, 74, 0, 0, 0, 0]⟩ : ByteArray).data.toList = knownBlock from rfl]
      have BB2 := Lib.hid (BB.out.trans ((ext_below wr x).mono BB.out.size))
      generalize ext wr x = w2 at BB2 ⊢
      have hlen : knownBlock.length = 64 := block_length _ _ _
      clear BB hlt hk
      go_wp2_with fail
      refine (hex_any _ _ (by rw [ByteArray.size_extract]; omega)).mono ?_
      rintro _ _ ⟨rfl, x2, rfl⟩
      rw [data_extract, show (knownBlock.drop 0).take (16 - 0) = knownBlock.take 16 from rfl, known_a]
      have BB3 := Lib.hid (BB2.out.trans ((ext_below w2 x2).mono BB2.out.size))
      generalize ext w2 x2 = w3 at BB3 ⊢
      clear BB2
      go_wp2_with fail
      refine (hex_any _ _ (by rw [ByteArray.size_extract]; omega)).mono ?_
      rintro _ _ ⟨rfl, x3, rfl⟩
      rw [data_extract, show (knownBlock.drop 60).take (64 - 60) = knownBlock.drop 60 from List.take_of_length_le (by rw [List.length_drop, hlen]; exact Nat.le_refl _), known_b]
      have BB4 := Lib.hid (BB3.out.trans ((ext_below w3 x3).mono BB3.out.size))
      generalize ext w3 x3 = w4 at BB4 ⊢
      clear BB3
      go_wp2_with fail
      go_ret
      exact ⟨rfl, ext_of BB4.out⟩
end Go.Proofs.Ytpjmfcncjoeebaa
