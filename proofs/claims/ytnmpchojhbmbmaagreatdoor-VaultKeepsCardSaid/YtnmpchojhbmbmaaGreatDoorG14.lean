/- oublietteref's sum: its words are the program's; rot, Num (the walks). -/
import Derived.Test.YtnmpchojhbmbmaaGreatDoorProg
import Derived.Test.YtnmpchojhbmbmaaGreatDoorG7
import Derived.Test.YtnmpchojhbmbmaaGreatDoorG8
import Derived.Test.YtnmpchojhbmbmaaGreatDoorG13
namespace Go.Proofs.YtnmpchojhbmbmaaGreatDoor
open Go.RowKit

theorem rot_apart (x : BitVec 32) (n : Nat) (h1 : n < 32) : x >>> n &&& x <<< (32 - n) = 0#32 := by
  apply BitVec.eq_of_getLsbD_eq
  intro i hi
  simp only [BitVec.getLsbD_and, BitVec.getLsbD_ushiftRight, BitVec.getLsbD_shiftLeft, BitVec.getLsbD_zero]
  by_cases h : i < 32 - n
  · simp [h]
  · rw [BitVec.getLsbD_of_ge x (n + i) (by omega)]; rfl
theorem rot_add (x : BitVec 32) (n : Nat) (h1 : n < 32) : x >>> n + x <<< (32 - n) = rotr x n := by
  unfold rotr
  exact BitVec.add_eq_or_of_and_eq_zero _ _ (rot_apart x n h1)
theorem ch_is (e f g : BitVec 32) : g ^^^ (e &&& (f ^^^ g)) = e &&& f ^^^ ~~~e &&& g := by
  apply BitVec.eq_of_getLsbD_eq
  intro i hi
  simp only [BitVec.getLsbD_and, BitVec.getLsbD_xor, BitVec.getLsbD_not, hi, decide_true, Bool.true_and]
  cases e.getLsbD i <;> cases f.getLsbD i <;> cases g.getLsbD i <;> rfl
theorem maj_is (a b c : BitVec 32) : (a &&& b) ||| (c &&& (a ||| b)) = a &&& b ^^^ a &&& c ^^^ b &&& c := by
  apply BitVec.eq_of_getLsbD_eq
  intro i hi
  simp only [BitVec.getLsbD_and, BitVec.getLsbD_xor, BitVec.getLsbD_or]
  cases a.getLsbD i <;> cases b.getLsbD i <;> cases c.getLsbD i <;> rfl
theorem one_is (v : Nat → BitVec 32) (k w : BitVec 32) : v 7 + (rotr (v 4) 6 ^^^ rotr (v 4) 11 ^^^ rotr (v 4) 25) + (v 6 ^^^ (v 4 &&& (v 5 ^^^ v 6))) + k + w = stepOne v k w := by
  unfold stepOne; rw [ch_is]
theorem two_is (v : Nat → BitVec 32) : (rotr (v 0) 2 ^^^ rotr (v 0) 13 ^^^ rotr (v 0) 22) + ((v 0 &&& v 1) ||| (v 2 &&& (v 0 ||| v 1))) = stepTwo v := by
  unfold stepTwo; rw [maj_is]
theorem sched_is (a b c d : BitVec 32) : a + b + c + d = d + c + b + a := by
  rw [BitVec.add_comm (a + b + c) d, BitVec.add_comm (a + b) c, BitVec.add_comm a b, ← BitVec.add_assoc, ← BitVec.add_assoc]
theorem be32_word (l : List UInt8) (k : Nat) : be32 l k = wordAt [l.getD (k + 3) 0, l.getD (k + 2) 0, l.getD (k + 1) 0, l.getD k 0] 0 := by
  show _ = BitVec.ofNat 32 (l.getD (k + 3) 0).toNat ||| BitVec.ofNat 32 (l.getD (k + 2) 0).toNat <<< 8 ||| BitVec.ofNat 32 (l.getD (k + 1) 0).toNat <<< 16 ||| BitVec.ofNat 32 (l.getD k 0).toNat <<< 24
  unfold be32
  generalize BitVec.ofNat 32 (l.getD k 0).toNat <<< 24 = a
  generalize BitVec.ofNat 32 (l.getD (k + 1) 0).toNat <<< 16 = b
  generalize BitVec.ofNat 32 (l.getD (k + 2) 0).toNat <<< 8 = c
  generalize BitVec.ofNat 32 (l.getD (k + 3) 0).toNat = d
  rw [BitVec.or_comm (a ||| b ||| c) d, BitVec.or_comm (a ||| b) c, BitVec.or_comm a b, ← BitVec.or_assoc, ← BitVec.or_assoc]
/-- A word of j bytes, the greatest first. -/
def partW (l : List UInt8) (k : Nat) : Nat → BitVec 32
  | 0 => 0
  | j + 1 => partW l k j * 256 + BitVec.ofNat 32 (l.getD (k + j) 0).toNat
theorem partW_step (x : BitVec 32) (b : UInt8) : (val x * 256 % 4294967296 + (b.toNat : Int)) % 4294967296 = val (x * 256 + BitVec.ofNat 32 b.toNat) := by
  have := b.toNat_lt
  unfold val
  rw [BitVec.toNat_add, BitVec.toNat_mul, BitVec.toNat_ofNat, Nat.mod_eq_of_lt (a := b.toNat) (by omega), show (256 : BitVec 32).toNat = 256 from rfl, show (2 : Nat) ^ 32 = 4294967296 from rfl]
  omega
theorem partW_four (l : List UInt8) (k : Nat) : partW l k 4 = be32 l k := by
  have h : val (be32 l k) = (l.getD (k + 3) 0).toNat + 256 * (l.getD (k + 2) 0).toNat + 65536 * (l.getD (k + 1) 0).toNat + 16777216 * (l.getD k 0).toNat := by rw [be32_word]; exact wordAt_sum _ 0
  have e : ∀ x y : BitVec 32, val x = val y → x = y := fun x y h => BitVec.eq_of_toNat_eq (by unfold val at h; omega)
  apply e
  rw [h]
  show val (((((0 : BitVec 32) * 256 + BitVec.ofNat 32 (l.getD k 0).toNat) * 256 + BitVec.ofNat 32 (l.getD (k + 1) 0).toNat) * 256 + BitVec.ofNat 32 (l.getD (k + 2) 0).toNat) * 256 + BitVec.ofNat 32 (l.getD (k + 3) 0).toNat) =
    (l.getD (k + 3) 0).toNat + 256 * (l.getD (k + 2) 0).toNat + 65536 * (l.getD (k + 1) 0).toNat + 16777216 * (l.getD k 0).toNat
  have h0 := (l.getD k 0).toNat_lt
  have h1 := (l.getD (k + 1) 0).toNat_lt
  have h2 := (l.getD (k + 2) 0).toNat_lt
  have h3 := (l.getD (k + 3) 0).toNat_lt
  rw [← partW_step, ← partW_step, ← partW_step, ← partW_step, show val 0 = 0 from rfl]
  omega

set_option maxHeartbeats 400000 in
theorem rrot_any (x : BitVec 32) (n : Nat) (h0 : 0 < n) (hn : n < 32) (w : World) :
    Calls Tryz.prog 52 #[.int .u32 (val x), .int .i64 n] w fun e w' => e = .returned (.int .u32 (val (rotr x n))) ∧ ∃ x, w' = ext w x := by
  have hr : (val x / 2 ^ n + val x * 2 ^ (32 - n) % 4294967296) % 4294967296 = val (rotr x n) := by
    rw [shl32, shr32, add32, rot_add x n hn]
  have hr' := Lib.hid hr
  clear hr
  go_enter Tryz.func52, Tryz.ntmps52
  go_wp2
  refine wp_region_ext (by kernel_rfl) (by kernel_rfl) ?_
  repeat (go_big_quiet_step (fail))
  refine wpQuiet_nil ?_
  rintro _ ⟨x1, rfl⟩
  go_wp2
  go_ret
  exact ⟨by rw [hr'.out]; rfl, x1, rfl⟩
theorem rrot_z (x : BitVec 32) (v : Int) (h0 : 0 < v) (h1 : v < 32) (w : World) :
    Calls Tryz.prog 52 #[.int .u32 (val x), .int .i64 v] w fun e w' => e = .returned (.int .u32 (val (rotr x v.toNat))) ∧ ∃ x, w' = ext w x := by
  obtain ⟨n, rfl⟩ := Int.eq_ofNat_of_zero_le (Int.le_of_lt h0)
  exact rrot_any x n (by omega) (by omega) w

/-! ### Num -/
/-- A number's last k bytes. -/
def numLast (n : Int) (k : Nat) : List UInt8 := (List.range k).map fun j => byteOf n (k - 1 - j)
theorem numLast_succ (n : Int) (k : Nat) : numLast n (k + 1) = byteOf n k :: numLast n k := by
  unfold numLast
  rw [List.range_succ_eq_map, List.map_cons, List.map_map]
  congr 1
  apply List.map_congr_left
  intro j hj
  show byteOf n (k + 1 - 1 - (j + 1)) = byteOf n (k - 1 - j)
  congr 1; omega
theorem numLast_all (n : Int) : numLast n 8 = numB n := rfl
theorem string_of_byte' (w : World) (b : UInt8) : (convert 92 9 (.slice (some ⟨w.heap.size, 0, none⟩) 1 1)).run Tryz.prog (w.alloc (.cells #[.int .u8 (b.toNat : Int)] 5)) = .ok (.string ⟨#[b]⟩) (w.alloc (.cells #[.int .u8 (b.toNat : Int)] 5)) :=
  string_of_own (ownsC_row (base := w.heap.size) (w := w.alloc (.cells (rowB [b] #[]) 5)) (g := w.heap.size) (cap := 1) (l := [b]) (sp := #[]) (t := 5) (fz := (0, 0)) (heap_alloc_at _ _) (Nat.le_refl _) (by simp [rowB, B8]) (by unfold maxLen; omega) (Or.inr rfl))

set_option maxRecDepth 100000 in
set_option maxHeartbeats 1000000 in
theorem rnum_any (n : Int) (w : World) :
    Calls Tryz.prog 37 #[.int .i64 n] w fun r w' => r = .returned (.string ⟨(numB n).toArray⟩) ∧ ∃ x, w' = ext w x := by
  have N0 : Hid (n % 18446744073709551616 = n % 18446744073709551616 / 2 ^ (8 * 0)) := Lib.hid (by simp)
  go_enter Tryz.func37, Tryz.ntmps37
  go_wp2_with fail
  go_loopw [7, 4, 3] (fun iv uv sv wr => ∃ k : Nat, k ≤ 8 ∧ iv = .int .i64 k ∧ uv = .int .u64 (n % 18446744073709551616 / 2 ^ (8 * k)) ∧ sv = .string ⟨(numLast n k).toArray⟩ ∧ Hid (Below w.heap.size w wr)) (fun iv _ _ _ => 8 - (intOf iv).toNat)
  case atStart => exact ⟨0, by omega, rfl, by rw [← N0.out, IntKind.wrap_u64], rfl, Lib.hid (Below.refl _ _)⟩
  case round =>
    obtain ⟨k, hk, rfl, rfl, rfl, BB⟩ := hrel
    by_cases hlt : k < 8
    · have hb := byteOf_val n k
      have hu0 : 0 ≤ n % 18446744073709551616 / 2 ^ (8 * k) := Int.ediv_nonneg (Int.emod_nonneg _ (by decide)) (Int.le_of_lt (Int.pow_pos (by decide)))
      have hnx : n % 18446744073709551616 / 2 ^ (8 * k) / 256 = n % 18446744073709551616 / 2 ^ (8 * (k + 1)) := by
        rw [Int.ediv_ediv_of_nonneg (Int.le_of_lt (Int.pow_pos (by decide))), show (256 : Int) = 2 ^ 8 from rfl, ← Int.pow_add]; rfl
      have hu1 : n % 18446744073709551616 / 2 ^ (8 * k) < 18446744073709551616 := Int.lt_of_le_of_lt (Int.ediv_le_self _ (Int.emod_nonneg _ (by decide))) (Int.emod_lt_of_pos _ (by decide))
      have HNX := Lib.hid hnx
      have HSU := Lib.hid (numLast_succ n k)
      have hl : (numLast n k).length = k := by simp [numLast]
      generalize numLast n k = M at HSU hl ⊢
      generalize n % 18446744073709551616 / 2 ^ (8 * k) = u at hb hu0 HNX hu1 ⊢
      clear hnx
      generalize byteOf n k = b at hb HSU
      have hconv := string_of_byte' wr b
      have hnb : ¬ 9223372036854775807 < 1 + M.length := by omega
      have hb' : u % 256 = (b.toNat : Int) := hb.symm
      clear hb
      have hdv : u.tdiv 256 = u / 256 := Int.tdiv_eq_ediv_of_nonneg hu0
      go_wp2_with fail
      go_roundw
      case rel => exact ⟨k + 1, by omega, by go_num, by rw [HNX.out], by rw [show (⟨#[b]⟩ : ByteArray) = ⟨[b].toArray⟩ from rfl, str_append, HSU.out]; rfl, Lib.hid (BB.out.alloc BB.out.size _)⟩
      case measure => simp [intOf]; omega
    · obtain rfl : k = 8 := by omega
      rw [show ((8 : Nat) : Int) = 8 from rfl]
      have e := numLast_all n
      go_wp2_with fail
      go_ret
      exact ⟨by rw [← e]; rfl, ext_of BB.out⟩
end Go.Proofs.YtnmpchojhbmbmaaGreatDoor
