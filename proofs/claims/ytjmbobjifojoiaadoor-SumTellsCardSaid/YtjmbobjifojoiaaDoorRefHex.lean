/- strconv.FormatInt(n, 16), of three digits; oublietteref.Hex (the walks). -/
import Derived.Test.YtjmbobjifojoiaaDoorProg
import Derived.Test.YtjmbobjifojoiaaDoorHex
import Derived.Test.YtjmbobjifojoiaaDoorOwn
namespace Go.Proofs.YtjmbobjifojoiaaDoor
open Go.RowKit

/-- The table by which the zeros behind the last bit are found, at 16. -/
def Bruijn (w : World) : Prop := 6 < w.heap.size ∧ w.cell? ⟨6, 15, none⟩ = some (.int .u8 4)
theorem Bruijn_of {w w' : World} (h : Bruijn w) (hh : ∀ k, k < w.heap.size → w'.heap[k]? = w.heap[k]?) (hs : w.heap.size ≤ w'.heap.size) : Bruijn w' :=
  ⟨Nat.lt_of_lt_of_le h.1 hs, by have := h.2; rw [cell_in] at this ⊢; rw [hh _ h.1]; exact this⟩
theorem Bruijn_ext {w w' : World} (h : Bruijn w) (hx : ∃ x, w' = ext w x) : Bruijn w' := Bruijn_of h (fun _ hk => (ext_iff.1 hx).block _ hk) (ext_iff.1 hx).size

theorem and15 (u : Nat) (h : u < 18446744073709551616) : bits .and .u64 (u : Int) 15 = ((u % 16 : Nat) : Int) := by
  rw [bits_and]
  show IntKind.u64.wrap ((BitVec.ofInt 64 (u : Int) &&& BitVec.ofInt 64 15).toNat : Int) = _
  have e1 : BitVec.ofInt 64 (u : Int) = BitVec.ofNat 64 u := by simp
  rw [e1, show BitVec.ofInt 64 15 = BitVec.ofNat 64 15 from rfl, BitVec.toNat_and, BitVec.toNat_ofNat, BitVec.toNat_ofNat, Nat.mod_eq_of_lt h, show 15 % 2 ^ 64 = 2 ^ 4 - 1 from rfl, Nat.and_two_pow_sub_one_eq_mod, IntKind.wrap_u64]
  have : u % 2 ^ 4 < 16 := Nat.mod_lt _ (by decide)
  show ((u % 2 ^ 4 : Nat) : Int) % 18446744073709551616 = ((u % 2 ^ 4 : Nat) : Int)
  omega

set_option maxHeartbeats 400000 in
theorem tz16 (w : World) (hT : Bruijn w) : Calls Tryd.prog 165 #[.int .u64 16] w fun r w' => r = .returned (.int .i64 4) ∧ w' = w := by
  have hc := hT.2
  have hw1 : IntKind.u64.wrap (-16) = 18446744073709551600 := by decide
  have ha : bits .and .u64 16 18446744073709551600 = 16 := by decide
  have hw2 : IntKind.u64.wrap 4573923408821661840 = 4573923408821661840 := by decide
  go_enter Tryd.func165, Tryd.ntmps165
  go_wp2_with fail
  go_ret
  exact ⟨rfl, rfl⟩

set_option maxHeartbeats 400000 in
theorem tz16' (w : World) (hT : Bruijn w) : Calls Tryd.prog 147 #[.int .u64 16] w fun r w' => r = .returned (.int .i64 4) ∧ w' = w := by
  go_enter Tryd.func147, Tryd.ntmps147
  go_wp2_with fail
  refine (tz16 _ hT).mono ?_
  rintro _ w1 ⟨rfl, rfl⟩
  go_wp2_with fail
  go_ret
  exact ⟨rfl, rfl⟩
set_option maxHeartbeats 400000 in
theorem pow16 (w : World) : Calls Tryd.prog 146 #[.int .i64 16] w fun r w' => r = .returned (.bool true) ∧ w' = w := by
  have h : bits .and .i64 16 15 = 0 := by decide
  go_enter Tryd.func146, Tryd.ntmps146
  go_wp2_with fail
  go_ret
  exact ⟨rfl, rfl⟩

theorem store_row8 {w : World} {b i : Nat} {xs : List UInt8} {sp : Array Value} {t : TypeId} {c : UInt8} (h : w.heap[b]? = some (.cells (rowB xs sp) t (0, 0))) (hi : i < xs.length) :
    (w.setCell ⟨b, i, none⟩ (.int .u8 (c.toNat : Int))).heap[b]? = some (.cells (rowB (xs.set i c) sp) t (0, 0)) := by
  rw [← rowB_set hi c]; exact heap_setCell h _
/-- The block of digits: three of them, at its end. -/
def dig65 : List UInt8 := List.replicate 65 0
theorem digit36 (n : Nat) (h : n < 16) : (⟨#[48, 49, 50, 51, 52, 53, 54, 55, 56, 57, 97, 98, 99, 100, 101, 102, 103, 104, 105, 106, 107, 108, 109, 110, 111, 112, 113, 114, 115, 116, 117, 118, 119, 120, 121, 122]⟩ : ByteArray)[n]'(by show n < 36; omega) = hexDig n := by
  rcases n with _ | _ | _ | _ | _ | _ | _ | _ | _ | _ | _ | _ | _ | _ | _ | _ | n <;> first | rfl | omega

set_option maxRecDepth 100000 in
set_option maxHeartbeats 1000000 in
theorem bits16 (u : Nat) (h0 : 256 ≤ u) (h1 : u < 512) (w : World) (hT : Bruijn w) :
    Calls Tryd.prog 117 #[.slice none 0 0, .int .u64 u, .int .i64 16, .bool false, .bool false] w fun r w' =>
      r = .returned (.tuple #[.slice none 0 0, .string ⟨#[49, hexDig (u / 16 % 16), hexDig (u % 16)]⟩]) ∧ ∃ x, w' = ext w x := by
  have BT := Lib.hid hT
  have a1 := and15 u (by omega)
  have a2 := and15 (u / 16) (by omega)
  have d1 : (u : Int) / 16 = ((u / 16 : Nat) : Int) := rfl
  have d2 : ((u / 16 : Nat) : Int) / 16 = 1 := by omega
  have l1 : u % 16 < 16 := Nat.mod_lt _ (by decide)
  have l2 : u / 16 % 16 < 16 := Nat.mod_lt _ (by decide)
  have e1 := digit36 (u % 16) l1
  have e2 := digit36 (u / 16 % 16) l2
  have g1 : (16 : Int) ≤ u := by omega
  have g2 : (16 : Int) ≤ ((u / 16 : Nat) : Int) := by omega
  generalize u % 16 = lo at *
  generalize u / 16 % 16 = hi at *
  generalize u / 16 = q at *
  clear hT h0 h1
  go_enter Tryd.func117, Tryd.ntmps117
  go_wp2_with fail
  have BT1 := Lib.hid (Bruijn_of BT.out (w' := w.alloc (.cells Tryd.zeroCells202 202)) (fun _ hk => heap_alloc_old _ _ hk) (by simp))
  have HB : Hid ((w.alloc (.cells Tryd.zeroCells202 202)).heap[w.heap.size]? = some (.cells (rowB dig65 #[]) 202 (0, 0))) := Lib.hid (by
    rw [heap_alloc_at, show rowB dig65 #[] = Tryd.zeroCells202 by kernel_rfl])
  have BB := Lib.hid ((Below.refl w.heap.size w).alloc (Nat.le_refl _) (.cells Tryd.zeroCells202 202))
  generalize w.alloc (.cells Tryd.zeroCells202 202) = w1 at BT1 HB BB ⊢
  clear BT
  refine (pow16 _).mono ?_
  rintro _ w2 ⟨rfl, rfl⟩
  go_wp2_with fail
  refine (tz16' _ BT1.out).mono ?_
  rintro _ w2 ⟨rfl, rfl⟩
  have hf := free_of_heap HB.out
  have hc64 := cell_of_rowB HB.out 64 (by decide)
  go_wp2_with fail
  refine wp_loop_rounds 3 ?_
  rw [rounds_succ]
  go_wp2_with fail
  have H1 := Lib.hid (store_row8 (i := 64) (c := hexDig lo) HB.out (by decide))
  have B1 := Lib.hid (BB.out.grown (grown_setCell w2 w.heap.size 64 (.int .u8 ((hexDig lo).toNat : Int))) BB.out.size (by rintro _ ⟨⟩; exact Nat.le_refl _))
  generalize w2.setCell ⟨w.heap.size, 64, none⟩ (.int .u8 ((hexDig lo).toNat : Int)) = w3 at H1 B1 ⊢
  clear HB BB BT1 hf hc64
  have hf := free_of_heap H1.out
  have hc63 := cell_of_rowB H1.out 63 (by simp [dig65])
  rw [rounds_succ]
  go_wp2_with fail
  have H2 := Lib.hid (store_row8 (i := 63) (c := hexDig hi) H1.out (by simp [dig65]))
  have B2 := Lib.hid (B1.out.grown (grown_setCell w3 w.heap.size 63 (.int .u8 ((hexDig hi).toNat : Int))) B1.out.size (by rintro _ ⟨⟩; exact Nat.le_refl _))
  generalize w3.setCell ⟨w.heap.size, 63, none⟩ (.int .u8 ((hexDig hi).toNat : Int)) = w4 at H2 B2 ⊢
  clear H1 B1 hf hc63
  have hf := free_of_heap H2.out
  have hc62 := cell_of_rowB H2.out 62 (by simp [dig65])
  rw [rounds_succ]
  have e3 := digit36 1 (by omega)
  have h49 : Hid (hexDig 1 = 49) := Lib.hid rfl
  generalize hexDig 1 = one at e3 h49
  have H3 := Lib.hid (store_row8 (i := 62) (c := one) H2.out (by simp [dig65]))
  have B3 := Lib.hid (B2.out.grown (grown_setCell w4 w.heap.size 62 (.int .u8 (one.toNat : Int))) B2.out.size (by rintro _ ⟨⟩; exact Nat.le_refl _))
  have hconv : (convert 94 9 (.slice (some ⟨w.heap.size, 62, none⟩) 3 3)).run Tryd.prog (w4.setCell ⟨w.heap.size, 62, none⟩ (.int .u8 (one.toNat : Int))) = .ok (.string ⟨#[one, hexDig hi, hexDig lo]⟩) (w4.setCell ⟨w.heap.size, 62, none⟩ (.int .u8 (one.toNat : Int))) := by
    refine run_convert_bytes_back _ 94 9 5 ⟨w.heap.size, 62, none⟩ 3 [one, hexDig hi, hexDig lo] Tryd.underlying94 Tryd.underlying5 Tryd.underlying9 ?_
    intro j hj
    rw [add_flat', cell_of_rowB H3.out (62 + j) (by have : j < 3 := hj; simp [dig65]; omega)]
    match j, hj with
    | 0, _ => rfl
    | 1, _ => rfl
    | 2, _ => rfl
  go_wp2_with fail
  go_ret2
  exact ⟨by rw [h49.out]; rfl, ext_of B3.out⟩

set_option maxHeartbeats 1000000 in
theorem fmt16' (u : Nat) (h0 : 256 ≤ u) (h1 : u < 512) (w : World) (hT : Bruijn w) :
    Calls Tryd.prog 101 #[.int .i64 u, .int .i64 16] w fun r w' => r = .returned (.string ⟨#[49, hexDig (u / 16 % 16), hexDig (u % 16)]⟩) ∧ ∃ x, w' = ext w x := by
  have c := bits16 u h0 h1 w hT
  have hw : IntKind.u64.wrap (u : Int) = u := by rw [IntKind.wrap_u64]; omega
  have hn : ¬ (u : Int) < 0 := by omega
  generalize hexDig (u / 16 % 16) = a at c ⊢
  generalize hexDig (u % 16) = b at c ⊢
  clear h0 h1
  go_enter Tryd.func101, Tryd.ntmps101
  go_wp2_with fail
  refine c.mono ?_
  rintro _ w1 ⟨rfl, hx⟩
  have X := Lib.hid hx
  clear hx
  go_wp2_with fail
  go_ret
  exact ⟨rfl, X.out⟩
set_option maxHeartbeats 1000000 in
theorem fmt16 (u : Nat) (h0 : 256 ≤ u) (h1 : u < 512) (w : World) (hT : Bruijn w) :
    Calls Tryd.prog 73 #[.int .i64 u, .int .i64 16] w fun r w' => r = .returned (.string ⟨#[49, hexDig (u / 16 % 16), hexDig (u % 16)]⟩) ∧ ∃ x, w' = ext w x := by
  have c := fmt16' u h0 h1 w hT
  generalize hexDig (u / 16 % 16) = a at c ⊢
  generalize hexDig (u % 16) = b at c ⊢
  clear h0 h1
  go_enter Tryd.func73, Tryd.ntmps73
  go_wp2_with fail
  refine c.mono ?_
  rintro _ w1 ⟨rfl, hx⟩
  have X := Lib.hid hx
  clear hx
  go_wp2_with fail
  go_ret
  exact ⟨rfl, X.out⟩

/-! ### Hex -/
set_option maxRecDepth 100000 in
set_option maxHeartbeats 1000000 in
theorem rhex_any (s : ByteArray) (w : World) (hs : s.size ≤ 1048576) (hT : Bruijn w) :
    Calls Tryd.prog 21 #[.string s] w fun r w' => r = .returned (.string ⟨(hexB s.data.toList).toArray⟩) ∧ ∃ x, w' = ext w x := by
  have BT := Lib.hid hT
  clear hT
  have HL : Hid (s.data.toList.length = s.size) := Lib.hid (by rw [Array.length_toList]; rfl)
  go_enter Tryd.func21, Tryd.ntmps21
  go_wp2_with fail
  go_loopw [7, 3] (fun iv ov wr => ∃ k : Nat, k ≤ s.size ∧ iv = .int .i64 k ∧ ov = .string ⟨(hexB (s.data.toList.take k)).toArray⟩ ∧ Hid (∃ x, wr = ext w x)) (fun iv _ _ => s.size - (intOf iv).toNat)
  case atStart => exact ⟨0, Nat.zero_le _, rfl, rfl, Lib.hid (ext_refl _)⟩
  case round =>
    obtain ⟨k, hk, rfl, rfl, X⟩ := hrel
    by_cases hlt : k < s.size
    · have hkl : k < s.data.toList.length := by rw [HL.out]; exact hlt
      have HS := Lib.hid (hexB_take_succ s.data.toList k hkl)
      have hgd := get_data0 s k hlt
      have hg2 : s.data.toList.getD k 0 = s.data.toList[k] := by simp [List.getD_eq_getElem?_getD, List.getElem?_eq_getElem hkl]
      have hlen := hexB_length (s.data.toList.take k)
      have hle : (s.data.toList.take k).length ≤ s.size := by rw [List.length_take, HL.out]; omega
      rw [hg2] at hgd
      generalize s.data.toList[k] = c at HS hgd
      have hcl := c.toNat_lt
      have c16 : ∀ w, Bruijn w → Calls Tryd.prog 73 #[.int .i64 ((c.toNat : Int) + 256), .int .i64 16] w fun r w' => r = .returned (.string ⟨#[49, hexDig (c.toNat / 16), hexDig (c.toNat % 16)]⟩) ∧ ∃ x, w' = ext w x := fun w h => by
        have := fmt16 (c.toNat + 256) (by omega) (by omega) w h
        rw [show (c.toNat + 256) / 16 % 16 = c.toNat / 16 by omega, show (c.toNat + 256) % 16 = c.toNat % 16 by omega] at this
        exact this
      generalize hexDig (c.toNat / 16) = d1 at HS c16
      generalize hexDig (c.toNat % 16) = d2 at HS c16
      have hex : (⟨#[49, d1, d2]⟩ : ByteArray).extract 1 3 = ⟨[d1, d2].toArray⟩ := ByteArray.ext (Array.toList_inj.1 (data_extract [49, d1, d2] 1 3))
      generalize hexB (s.data.toList.take k) = M at HS hlen ⊢
      have hnb : ¬ 9223372036854775807 < M.length + 2 := by omega
      go_wp2_with fail
      refine (c16 _ (Bruijn_ext BT.out X.out)).mono ?_
      rintro _ w2 ⟨rfl, hx⟩
      have X2 := Lib.hid (ext_trans X.out hx)
      clear hx X c16
      go_wp2_with fail
      go_roundw
      case rel => exact ⟨k + 1, by omega, by go_num, by rw [HS.out, ← str_append], X2⟩
      case measure => simp [intOf]; omega
    · obtain rfl : k = s.size := by omega
      have e : s.data.toList.take s.size = s.data.toList := List.take_of_length_le (by rw [HL.out]; exact Nat.le_refl _)
      go_wp2_with fail
      go_ret
      exact ⟨by rw [e]; rfl, X.out⟩
end Go.Proofs.YtjmbobjifojoiaaDoor
