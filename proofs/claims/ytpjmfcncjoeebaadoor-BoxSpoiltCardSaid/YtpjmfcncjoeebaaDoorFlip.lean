/- oubliettekeep.flip: a bit another one. -/
import Derived.Test.YtpjmfcncjoeebaaDoorProg
import Derived.Test.YtpjmfcncjoeebaaDoorOwn
import Derived.Test.YtpjmfcncjoeebaaDoorPick
namespace Go.Proofs.YtpjmfcncjoeebaaDoor
open Go.RowKit

def bit8 (j : Nat) : UInt8 := UInt8.ofNat (2 ^ j)
def flipK (l : List UInt8) (k : Nat) : List UInt8 := l.set (k / 8) (l.getD (k / 8) 0 ^^^ bit8 (k % 8))
def flipB (s : ByteArray) (bit : Int) : List UInt8 := flipK s.data.toList (pickN bit (8 * s.size))
theorem flipB_length (s : ByteArray) (bit : Int) : (flipB s bit).length = s.size := by
  unfold flipB flipK; rw [List.length_set, Array.length_toList]; rfl
theorem flipB_parts (s : ByteArray) (bit : Int) (n : Nat) : (flipB s bit).drop n = s.data.toList.drop n ∨ (flipB s bit).take n = s.data.toList.take n := by
  unfold flipB flipK
  by_cases h : pickN bit (8 * s.size) / 8 < n
  · left; rw [List.drop_set_of_lt h]
  · right; rw [List.take_set_of_le (by omega)]
theorem bit8_val (j : Nat) (h : j < 8) : ((bit8 j).toNat : Int) = 2 ^ j := by
  unfold bit8
  rw [UInt8.toNat_ofNat']
  have : ∀ j : Fin 8, ((2 ^ j.val % 2 ^ 8 : Nat) : Int) = 2 ^ j.val := by decide
  exact this ⟨j, h⟩

set_option maxRecDepth 100000 in
set_option maxHeartbeats 1000000 in
theorem flip_some (s : ByteArray) (bit : Int) (w : World) (h0 : 0 < s.size) (hs : s.size ≤ 1000) (hne : s.toList ≠ []) :
    Calls Tryd.prog 38 #[.string s, .int .i64 bit] w fun r w' => r = .returned (.string ⟨(flipB s bit).toArray⟩) ∧ ∃ x, w' = ext w x := by
  obtain ⟨sp, hbs⟩ := bytes_of_string w s
  have hlen : s.data.toList.length = s.size := by rw [Array.length_toList]; rfl
  have HL := Lib.hid hlen
  clear hlen
  have hne2 : (s.toList == []) = false := by rw [beq_eq_false_iff_ne]; exact hne
  have hne3 : s.toList.isEmpty = false := by rw [List.isEmpty_eq_false_iff]; exact hne
  go_enter Tryd.func38, Tryd.ntmps38
  go_wp2_with fail
  clear hbs
  have HB : Hid (((w.alloc (.cells (rowB s.data.toList sp) 5 ((rowB s.data.toList sp).size, (rowB s.data.toList sp).size + 1))).drew).heap[w.heap.size]? =
    some (.cells (rowB s.data.toList sp) 5 ((rowB s.data.toList sp).size, (rowB s.data.toList sp).size + 1))) := Lib.hid (heap_alloc_at _ _)
  have BB : Hid (Below w.heap.size w ((w.alloc (.cells (rowB s.data.toList sp) 5 ((rowB s.data.toList sp).size, (rowB s.data.toList sp).size + 1))).drew)) :=
    Lib.hid (((Below.refl _ _).alloc (Nat.le_refl _) _).drew)
  have hM : s.size ≤ (rowB s.data.toList sp).size := by rw [rowB_size, HL.out]; omega
  generalize (w.alloc (.cells (rowB s.data.toList sp) 5 ((rowB s.data.toList sp).size, (rowB s.data.toList sp).size + 1))).drew = w1 at HB BB ⊢
  generalize (rowB s.data.toList sp).size = M at HB hM
  generalize grownCap w s.size 0 5 = cap
  refine (pick_any bit (8 * s.size) _ (by omega) (by omega) _ (by push_cast; rfl)).mono ?_
  rintro _ _ ⟨rfl, x, rfl⟩
  have HB2 := Lib.hid ((ext_heap (x := x) (lt_of_heap HB.out)).trans HB.out)
  have BB2 := Lib.hid (BB.out.trans ((ext_below w1 x).mono BB.out.size))
  generalize ext w1 x = w2 at HB2 BB2 ⊢
  have hk := pickN_lt bit (8 * s.size) (by omega)
  have hF : Hid (flipB s bit = flipK s.data.toList (pickN bit (8 * s.size))) := Lib.hid rfl
  generalize pickN bit (8 * s.size) = k at hk hF ⊢
  have hk8 : k / 8 < s.size := by omega
  have hl : k / 8 < s.data.toList.length := by rw [HL.out]; exact hk8
  have hc := cell_of_rowB HB2.out (k / 8) hl
  have hf := free_of_rowB HB2.out (by rw [HL.out]; exact hM) (k / 8) hl
  have lb := lt_of_heap HB2.out
  have hgd : s.data.toList.getD (k / 8) 0 = s.data.toList[k / 8] := by simp [List.getD_eq_getElem?_getD, List.getElem?_eq_getElem hl]
  have hFK : Hid (flipK s.data.toList k = s.data.toList.set (k / 8) (s.data.toList[k / 8] ^^^ bit8 (k % 8))) := Lib.hid (by unfold flipK; rw [hgd])
  generalize s.data.toList[k / 8] = c at hc hFK
  have hx : Hid (bits .xor .u8 ((c.toNat : Nat) : Int) ((2 : Int) ^ (k % 8) % 256) = ((c ^^^ bit8 (k % 8)).toNat : Int)) := Lib.hid (by
    rw [← xor8, ← bit8_val (k % 8) (by omega), Int.emod_eq_of_lt (by omega) (by have := (bit8 (k % 8)).toNat_lt; omega)])
  generalize c ^^^ bit8 (k % 8) = d at hx hFK
  have hi8 : (k : Int) / 8 < s.size := by omega
  clear HB BB hgd hk8
  go_wp2_with fail
  refine wp_region_tail 10 (by kernel_rfl) (by kernel_rfl) ?_
  simp only [List.take_succ_cons, List.take_zero, List.drop_succ_cons, List.drop_zero]
  repeat (go_big_quiet_step (fail))
  refine wpQuiet_nil ?_
  rintro _ ⟨x2, rfl⟩
  rw [hx.out]
  obtain ⟨S, U⟩ := store_rowB (x := x2) (v := d) HB2.out hl
  rw [← hFK.out, ← hF.out] at S
  have hconv := string_of_rowB (cap := cap) S
  rw [flipB_length] at hconv
  have BB3 := Lib.hid (BB2.out.grown U BB2.out.size (by rintro _ ⟨⟩; exact Nat.le_refl _))
  clear S U
  go_wp2_with fail
  go_ret
  exact ⟨rfl, ext_of BB3.out⟩

set_option maxRecDepth 100000 in
set_option maxHeartbeats 1000000 in
theorem flip_none (s : ByteArray) (bit : Int) (w : World) (h1 : s.toList = []) :
    Calls Tryd.prog 38 #[.string s, .int .i64 bit] w fun r w' => r = .returned (.string s) ∧ ∃ x, w' = ext w x := by
  have h2 : s.toList.isEmpty = true := by rw [h1]; rfl
  go_enter Tryd.func38, Tryd.ntmps38
  go_wp2_with fail
  go_ret
  exact ⟨rfl, ext_refl w⟩
theorem flip_any (s : ByteArray) (bit : Int) (w : World) (hs : s.size ≤ 1000) :
    Calls Tryd.prog 38 #[.string s, .int .i64 bit] w fun r w' => r = .returned (.string ⟨(flipB s bit).toArray⟩) ∧ ∃ x, w' = ext w x := by
  by_cases h : s.size = 0
  · have h1 : s.toList = [] := by
      rw [Lib.toList_data]
      exact List.length_eq_zero_iff.1 (by rw [Array.length_toList]; exact h)
    refine (flip_none s bit w h1).mono ?_
    rintro _ w' ⟨rfl, hx⟩
    rw [Lib.toList_data] at h1
    refine ⟨?_, hx⟩
    have e : flipB s bit = s.data.toList := by unfold flipB flipK; rw [h1]; rfl
    rw [e]
  · refine flip_some s bit w (by omega) hs ?_
    intro e
    rw [Lib.toList_data] at e
    apply h
    have : s.data.toList.length = 0 := by rw [e]; rfl
    rw [Array.length_toList] at this
    exact this
end Go.Proofs.YtpjmfcncjoeebaaDoor
