/- sum.Num: eight bytes of a number. · sum.Hex. · Package stream: what each of its functions computes (the walks), up to 'quarter'. -/
import Derived.Test.YtgckpfeeioljeaaGreatDoorProg
import Derived.Test.YtgckpfeeioljeaaGreatDoorG7
import Derived.Test.YtgckpfeeioljeaaGreatDoorG6
import Derived.Test.YtgckpfeeioljeaaGreatDoorWords
namespace Go.Proofs.YtgckpfeeioljeaaGreatDoor
open Go.RowKit

/-- Byte number k of a number, the least first. -/
def byteOf (n : Int) (k : Nat) : UInt8 := UInt8.ofNat (n % 18446744073709551616 / 2 ^ (8 * k)).toNat
theorem byteOf_val (n : Int) (k : Nat) : ((byteOf n k).toNat : Int) = n % 18446744073709551616 / 2 ^ (8 * k) % 256 := by
  unfold byteOf
  rw [UInt8.toNat_ofNat']
  have h : 0 ≤ n % 18446744073709551616 / 2 ^ (8 * k) := Int.ediv_nonneg (Int.emod_nonneg _ (by decide)) (by exact_mod_cast Nat.zero_le _)
  omega
/-- The first k of them, the greatest first. -/
def numTo (n : Int) (k : Nat) : List UInt8 := (List.range k).map fun j => byteOf n (7 - j)
theorem numTo_succ (n : Int) (k : Nat) : numTo n (k + 1) = numTo n k ++ [byteOf n (7 - k)] := by simp [numTo, List.range_succ]
theorem numTo_length (n : Int) (k : Nat) : (numTo n k).length = k := by simp [numTo]
def numB (n : Int) : List UInt8 := numTo n 8

set_option maxRecDepth 100000 in
set_option maxHeartbeats 1000000 in
theorem num_any (n : Int) (w : World) :
    Calls Tryz.prog 70 #[.int .i64 n] w fun r w' => r = .returned (.string ⟨(numB n).toArray⟩) ∧ ∃ x, w' = ext w x := by
  go_enter Tryz.func70, Tryz.ntmps70
  go_wp2_with fail
  go_loopw [4, 3] (fun i v wr => ∃ k : Nat, k ≤ 8 ∧ i = .int .i64 (7 - k) ∧ Hid (ownsC wr w.heap.size v (numTo n k)) ∧ Hid (Below w.heap.size w wr)) (fun i _ _ => (intOf i + 1).toNat)
  case atStart => exact ⟨0, by omega, rfl, Lib.hid (ownsC_nil _ _), Lib.hid (Below.refl _ _)⟩
  case round =>
    obtain ⟨k, hk8, rfl, H, B⟩ := hrel
    by_cases hlt : k < 8
    · have hge : (0 : Int) ≤ 7 - k := by omega
      have hv : Hid (#[Value.int .u8 (IntKind.u64.wrap n / 2 ^ (8 * (7 - k)) % 256)] = (B8 [byteOf n (7 - k)]).toArray) := by
        apply Lib.hid; simp only [B8, List.map_cons, List.map_nil, byteOf_val]; rw [IntKind.wrap_u64]
      go_wp2_with (at_builtin; refine append_own [byteOf n (7 - k)] w.heap.size _ (numTo n k) (.tmp 9) (.tmp 16) _ rfl rfl rfl 1 1 _ rfl rfl rfl (by simp) hv.out H.out (by rw [numTo_length]; simp; omega) B.out.size ?_; intro v' w' hO hg _)
      rw [← numTo_succ] at hO
      have B2 := Lib.hid (B.out.grown hg B.out.size (fun g e => ownsC_base H.out g e))
      have H2 := Lib.hid hO
      clear hO hg H B hv
      go_wp2_with fail
      go_roundw
      case rel => exact ⟨k + 1, by omega, by go_num, H2, B2⟩
      case measure => simp [intOf]; omega
    · obtain rfl : k = 8 := by omega
      rw [show (7 : Int) - ((8 : Nat) : Int) = -1 from rfl]
      have hconv := string_of_own H.out
      go_wp2_with fail
      go_ret
      exact ⟨rfl, ext_of B.out⟩
end Go.Proofs.YtgckpfeeioljeaaGreatDoor
namespace Go.Proofs.YtgckpfeeioljeaaGreatDoor
open Go.RowKit

def digits : ByteArray := ⟨#[48, 49, 50, 51, 52, 53, 54, 55, 56, 57, 97, 98, 99, 100, 101, 102]⟩
def hexDig (n : Nat) : UInt8 := digits.data.toList.getD n 0
def hexB (l : List UInt8) : List UInt8 := l.flatMap fun c => [hexDig (c.toNat / 16), hexDig (c.toNat % 16)]
theorem hexB_take_succ (l : List UInt8) (k : Nat) (h : k < l.length) : hexB (l.take (k + 1)) = hexB (l.take k) ++ [hexDig (l[k].toNat / 16), hexDig (l[k].toNat % 16)] := by
  rw [List.take_succ_eq_append_getElem h]; unfold hexB; rw [List.flatMap_append]; rfl
theorem hexB_length (l : List UInt8) : (hexB l).length = 2 * l.length := by
  induction l with
  | nil => rfl
  | cons c l ih =>
    show (hexDig _ :: hexDig _ :: hexB l).length = _
    simp only [List.length_cons, ih]; omega
theorem digit_at (n : Nat) (h : n < 16) : (⟨#[48, 49, 50, 51, 52, 53, 54, 55, 56, 57, 97, 98, 99, 100, 101, 102]⟩ : ByteArray)[n]'h = hexDig n := get_data0 digits n h

end Go.Proofs.YtgckpfeeioljeaaGreatDoor
namespace Go.Proofs.YtgckpfeeioljeaaGreatDoor
open Go.RowKit

def addAt (A : Nat → BitVec 32) (a b : Nat) : Nat → BitVec 32 := upd A a (A a + A b)
def mixAt (A : Nat → BitVec 32) (d a n : Nat) : Nat → BitVec 32 := upd A d (rotl (A d ^^^ A a) n)
/-- A quarter of a round. -/
def quarter (A : Nat → BitVec 32) (a b c d : Nat) : Nat → BitVec 32 :=
  mixAt (addAt (mixAt (addAt (mixAt (addAt (mixAt (addAt A a b) d a 16) c d) b c 12) a b) d a 8) c d) b c 7
/-- Four bytes, the least first. -/
def wordAt (l : List UInt8) (k : Nat) : BitVec 32 :=
  BitVec.ofNat 32 (l.getD k 0).toNat ||| BitVec.ofNat 32 (l.getD (k + 1) 0).toNat <<< 8 ||| BitVec.ofNat 32 (l.getD (k + 2) 0).toNat <<< 16 ||| BitVec.ofNat 32 (l.getD (k + 3) 0).toNat <<< 24

theorem byte32 (b : UInt8) : (b.toNat : Int) = val (BitVec.ofNat 32 b.toNat) := by
  have := b.toNat_lt
  unfold val
  rw [BitVec.toNat_ofNat, Nat.mod_eq_of_lt (by omega)]
theorem get_data (s : ByteArray) (i : Nat) (h : i < s.size) : s[i] = s.data.toList.getD i 0 := by
  show s.data[i] = _
  have : i < s.data.size := h
  simp only [List.getD_eq_getElem?_getD, Array.getElem?_toList]; rw [Array.getElem?_eq_getElem this]; rfl
theorem wordAt_walk (s : ByteArray) (h : 3 < s.size) :
    bits .or .u32 (bits .or .u32 (bits .or .u32 ((s[0].toNat : Nat) : Int) (((s[1].toNat : Nat) : Int) * 256 % 4294967296)) (((s[2].toNat : Nat) : Int) * 65536 % 4294967296)) (((s[3].toNat : Nat) : Int) * 16777216 % 4294967296) =
      val (wordAt s.data.toList 0) := by
  rw [byte32 s[0], byte32 s[1], byte32 s[2], byte32 s[3]]
  have e8 := shl32 (BitVec.ofNat 32 s[1].toNat) 8
  have e16 := shl32 (BitVec.ofNat 32 s[2].toNat) 16
  have e24 := shl32 (BitVec.ofNat 32 s[3].toNat) 24
  simp only [Int.reducePow] at e8 e16 e24
  rw [e8, e16, e24, or32, or32, or32]
  unfold wordAt
  rw [get_data s 0 (by omega), get_data s 1 (by omega), get_data s 2 (by omega), get_data s 3 h]

set_option maxHeartbeats 400000 in
theorem word_any (s : ByteArray) (w : World) (h3 : 3 < s.size) :
    Calls Tryz.prog 102 #[.string s] w fun e w' => e = .returned (.int .u32 (val (wordAt s.data.toList 0))) ∧ ∃ x, w' = ext w x := by
  have hw := Lib.hid (wordAt_walk s h3)
  have h0 : (0 : Int) < s.size := by omega
  have h1 : (1 : Int) < s.size := by omega
  have h2 : (2 : Int) < s.size := by omega
  have h3' : (3 : Int) < s.size := by omega
  have g0 : 0 < s.size := by omega
  go_enter Tryz.func102, Tryz.ntmps102
  go_wp2
  refine wp_region_ext (by kernel_rfl) (by kernel_rfl) ?_
  repeat (go_big_quiet_step (fail))
  refine wpQuiet_nil ?_
  rintro _ ⟨x1, rfl⟩
  go_wp2
  go_ret
  exact ⟨by rw [hw.out]; rfl, x1, rfl⟩

set_option maxHeartbeats 400000 in
theorem turn_any (x : BitVec 32) (n : Nat) (hn : n ≤ 32) (w : World) :
    Calls Tryz.prog 125 #[.int .u32 (val x), .int .i64 n] w fun e w' => e = .returned (.int .u32 (val (rotl x n))) ∧ ∃ x, w' = ext w x := by
  have hr : bits .or .u32 (val x * 2 ^ n % 4294967296) (val x / 2 ^ (32 - n)) = val (rotl x n) := by
    rw [shl32, shr32, or32]; rfl
  have hr' := Lib.hid hr
  clear hr
  go_enter Tryz.func125, Tryz.ntmps125
  go_wp2
  refine wp_region_ext (by kernel_rfl) (by kernel_rfl) ?_
  repeat (go_big_quiet_step (fail))
  refine wpQuiet_nil ?_
  rintro _ ⟨x1, rfl⟩
  go_wp2
  go_ret
  exact ⟨by rw [hr'.out]; rfl, x1, rfl⟩

/-! ### quarter: eight statements, each a region that draws its order -/
set_option maxRecDepth 100000 in
set_option maxHeartbeats 1000000 in
theorem quarter_any (A0 : Nat → BitVec 32) (b a c d e : Nat) (t : TypeId) (w0 : World) (hb0 : w0.heap[b]? = some (.cells (row32 16 A0) t (0, 0)))
    (la : a < 16) (lc : c < 16) (ld : d < 16) (le : e < 16) (va vc vd ve : Int) (ea : va = a) (ec : vc = c) (ed : vd = d) (ee : ve = e) :
    Calls Tryz.prog 103 #[.pointer (some ⟨b, 0, none⟩), .int .i64 va, .int .i64 vc, .int .i64 vd, .int .i64 ve] w0 fun r w' =>
      r = .returned (.tuple #[]) ∧ w0.grownBy w' (some b) ∧ w'.heap[b]? = some (.cells (row32 16 (quarter A0 a c d e)) t (0, 0)) := by
  subst ea ec ed ee
  have G0 := Lib.hid (grown_refl w0 (some b))
  have lb := lt_of_heap hb0
  have H0 := Lib.hid hb0
  have hc := cell_of_row32 hb0
  have hf := free_of_heap hb0
  clear hb0
  go_enter Tryz.func103, Tryz.ntmps103
  -- statement 1
  go_wp2
  refine wp_region_tail 13 (by kernel_rfl) (by kernel_rfl) ?_
  simp only [List.take_succ_cons, List.take_zero, List.drop_succ_cons, List.drop_zero]
  repeat (go_big_quiet_step (fail))
  refine wpQuiet_nil ?_
  rintro _ ⟨x0, rfl⟩
  go_wp2
  obtain ⟨S0, T0⟩ := store_row32 (x := x0) (i := a) (v := A0 a + A0 c) H0.out
  generalize hw : (ext w0 x0).setCell _ _ = w1 at S0 T0 ⊢
  clear hw hc hf
  have G1 := Lib.hid (G0.out.trans T0)
  replace lb := Nat.lt_of_lt_of_le lb T0.size
  obtain ⟨A1, hA1⟩ : ∃ A, A = upd A0 a (A0 a + A0 c) := ⟨_, rfl⟩
  rw [← hA1] at S0
  have H1 := Lib.hid S0
  have hc := cell_of_row32 S0
  have hf := free_of_heap S0
  have E1 := Lib.hid hA1
  clear S0 T0 hA1

  -- statement 2
  go_wp2
  refine wp_region_tail 16 (by kernel_rfl) (by kernel_rfl) ?_
  simp only [List.take_succ_cons, List.take_zero, List.drop_succ_cons, List.drop_zero]
  repeat (go_big_quiet_step ((go_at_call 125; refine (turn_any (A1 e ^^^ A1 a) 16 (by omega) _).mono ?_; rintro _ _ ⟨rfl, hx⟩; exact ⟨rfl, ext_trans ⟨_, rfl⟩ hx⟩)))
  refine wpQuiet_nil ?_
  rintro _ ⟨x1, rfl⟩
  go_wp2
  obtain ⟨S1, T1⟩ := store_row32 (x := x1) (i := e) (v := rotl (A1 e ^^^ A1 a) 16) H1.out
  generalize hw : (ext w1 x1).setCell _ _ = w2 at S1 T1 ⊢
  clear hw hc hf
  have G2 := Lib.hid (G1.out.trans T1)
  replace lb := Nat.lt_of_lt_of_le lb T1.size
  obtain ⟨A2, hA2⟩ : ∃ A, A = upd A1 e (rotl (A1 e ^^^ A1 a) 16) := ⟨_, rfl⟩
  rw [← hA2] at S1
  have H2 := Lib.hid S1
  have hc := cell_of_row32 S1
  have hf := free_of_heap S1
  have E2 := Lib.hid hA2
  clear S1 T1 hA2

  -- statement 3
  go_wp2
  refine wp_region_tail 13 (by kernel_rfl) (by kernel_rfl) ?_
  simp only [List.take_succ_cons, List.take_zero, List.drop_succ_cons, List.drop_zero]
  repeat (go_big_quiet_step (fail))
  refine wpQuiet_nil ?_
  rintro _ ⟨x2, rfl⟩
  go_wp2
  obtain ⟨S2, T2⟩ := store_row32 (x := x2) (i := d) (v := A2 d + A2 e) H2.out
  generalize hw : (ext w2 x2).setCell _ _ = w3 at S2 T2 ⊢
  clear hw hc hf
  have G3 := Lib.hid (G2.out.trans T2)
  replace lb := Nat.lt_of_lt_of_le lb T2.size
  obtain ⟨A3, hA3⟩ : ∃ A, A = upd A2 d (A2 d + A2 e) := ⟨_, rfl⟩
  rw [← hA3] at S2
  have H3 := Lib.hid S2
  have hc := cell_of_row32 S2
  have hf := free_of_heap S2
  have E3 := Lib.hid hA3
  clear S2 T2 hA3

  -- statement 4
  go_wp2
  refine wp_region_tail 16 (by kernel_rfl) (by kernel_rfl) ?_
  simp only [List.take_succ_cons, List.take_zero, List.drop_succ_cons, List.drop_zero]
  repeat (go_big_quiet_step ((go_at_call 125; refine (turn_any (A3 c ^^^ A3 d) 12 (by omega) _).mono ?_; rintro _ _ ⟨rfl, hx⟩; exact ⟨rfl, ext_trans ⟨_, rfl⟩ hx⟩)))
  refine wpQuiet_nil ?_
  rintro _ ⟨x3, rfl⟩
  go_wp2
  obtain ⟨S3, T3⟩ := store_row32 (x := x3) (i := c) (v := rotl (A3 c ^^^ A3 d) 12) H3.out
  generalize hw : (ext w3 x3).setCell _ _ = w4 at S3 T3 ⊢
  clear hw hc hf
  have G4 := Lib.hid (G3.out.trans T3)
  replace lb := Nat.lt_of_lt_of_le lb T3.size
  obtain ⟨A4, hA4⟩ : ∃ A, A = upd A3 c (rotl (A3 c ^^^ A3 d) 12) := ⟨_, rfl⟩
  rw [← hA4] at S3
  have H4 := Lib.hid S3
  have hc := cell_of_row32 S3
  have hf := free_of_heap S3
  have E4 := Lib.hid hA4
  clear S3 T3 hA4

  -- statement 5
  go_wp2
  refine wp_region_tail 13 (by kernel_rfl) (by kernel_rfl) ?_
  simp only [List.take_succ_cons, List.take_zero, List.drop_succ_cons, List.drop_zero]
  repeat (go_big_quiet_step (fail))
  refine wpQuiet_nil ?_
  rintro _ ⟨x4, rfl⟩
  go_wp2
  obtain ⟨S4, T4⟩ := store_row32 (x := x4) (i := a) (v := A4 a + A4 c) H4.out
  generalize hw : (ext w4 x4).setCell _ _ = w5 at S4 T4 ⊢
  clear hw hc hf
  have G5 := Lib.hid (G4.out.trans T4)
  replace lb := Nat.lt_of_lt_of_le lb T4.size
  obtain ⟨A5, hA5⟩ : ∃ A, A = upd A4 a (A4 a + A4 c) := ⟨_, rfl⟩
  rw [← hA5] at S4
  have H5 := Lib.hid S4
  have hc := cell_of_row32 S4
  have hf := free_of_heap S4
  have E5 := Lib.hid hA5
  clear S4 T4 hA5

  -- statement 6
  go_wp2
  refine wp_region_tail 16 (by kernel_rfl) (by kernel_rfl) ?_
  simp only [List.take_succ_cons, List.take_zero, List.drop_succ_cons, List.drop_zero]
  repeat (go_big_quiet_step ((go_at_call 125; refine (turn_any (A5 e ^^^ A5 a) 8 (by omega) _).mono ?_; rintro _ _ ⟨rfl, hx⟩; exact ⟨rfl, ext_trans ⟨_, rfl⟩ hx⟩)))
  refine wpQuiet_nil ?_
  rintro _ ⟨x5, rfl⟩
  go_wp2
  obtain ⟨S5, T5⟩ := store_row32 (x := x5) (i := e) (v := rotl (A5 e ^^^ A5 a) 8) H5.out
  generalize hw : (ext w5 x5).setCell _ _ = w6 at S5 T5 ⊢
  clear hw hc hf
  have G6 := Lib.hid (G5.out.trans T5)
  replace lb := Nat.lt_of_lt_of_le lb T5.size
  obtain ⟨A6, hA6⟩ : ∃ A, A = upd A5 e (rotl (A5 e ^^^ A5 a) 8) := ⟨_, rfl⟩
  rw [← hA6] at S5
  have H6 := Lib.hid S5
  have hc := cell_of_row32 S5
  have hf := free_of_heap S5
  have E6 := Lib.hid hA6
  clear S5 T5 hA6

  -- statement 7
  go_wp2
  refine wp_region_tail 13 (by kernel_rfl) (by kernel_rfl) ?_
  simp only [List.take_succ_cons, List.take_zero, List.drop_succ_cons, List.drop_zero]
  repeat (go_big_quiet_step (fail))
  refine wpQuiet_nil ?_
  rintro _ ⟨x6, rfl⟩
  go_wp2
  obtain ⟨S6, T6⟩ := store_row32 (x := x6) (i := d) (v := A6 d + A6 e) H6.out
  generalize hw : (ext w6 x6).setCell _ _ = w7 at S6 T6 ⊢
  clear hw hc hf
  have G7 := Lib.hid (G6.out.trans T6)
  replace lb := Nat.lt_of_lt_of_le lb T6.size
  obtain ⟨A7, hA7⟩ : ∃ A, A = upd A6 d (A6 d + A6 e) := ⟨_, rfl⟩
  rw [← hA7] at S6
  have H7 := Lib.hid S6
  have hc := cell_of_row32 S6
  have hf := free_of_heap S6
  have E7 := Lib.hid hA7
  clear S6 T6 hA7

  -- statement 8
  go_wp2
  refine wp_region_tail 16 (by kernel_rfl) (by kernel_rfl) ?_
  simp only [List.take_succ_cons, List.take_zero, List.drop_succ_cons, List.drop_zero]
  repeat (go_big_quiet_step ((go_at_call 125; refine (turn_any (A7 c ^^^ A7 d) 7 (by omega) _).mono ?_; rintro _ _ ⟨rfl, hx⟩; exact ⟨rfl, ext_trans ⟨_, rfl⟩ hx⟩)))
  refine wpQuiet_nil ?_
  rintro _ ⟨x7, rfl⟩
  go_wp2
  obtain ⟨S7, T7⟩ := store_row32 (x := x7) (i := c) (v := rotl (A7 c ^^^ A7 d) 7) H7.out
  generalize hw : (ext w7 x7).setCell _ _ = w8 at S7 T7 ⊢
  clear hw hc hf
  have G8 := Lib.hid (G7.out.trans T7)
  replace lb := Nat.lt_of_lt_of_le lb T7.size
  obtain ⟨A8, hA8⟩ : ∃ A, A = upd A7 c (rotl (A7 c ^^^ A7 d) 7) := ⟨_, rfl⟩
  rw [← hA8] at S7
  have H8 := Lib.hid S7
  have hc := cell_of_row32 S7
  have hf := free_of_heap S7
  have E8 := Lib.hid hA8
  clear S7 T7 hA8

  go_wp2
  go_end0
  have e : A8 = quarter A0 a c d e := by
    rw [E8.out, E7.out, E6.out, E5.out, E4.out, E3.out, E2.out, E1.out]; rfl
  exact ⟨rfl, G8.out, by rw [H8.out, e]⟩
end Go.Proofs.YtgckpfeeioljeaaGreatDoor
