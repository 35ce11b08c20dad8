/- sum.Mark. -/
import Derived.Test.YtnmpchojhbmbmaaGreatDoorProg
import Derived.Test.YtnmpchojhbmbmaaGreatDoorG7
namespace Go.Proofs.YtnmpchojhbmbmaaGreatDoor
open Go.RowKit

/-- What a mark is the sum of: a kind, and texts with their lengths ahead of them. -/
def markTo (k : UInt8) (ps : List ByteArray) : Nat → List UInt8
  | 0 => [k]
  | q + 1 => markTo k ps q ++ (numB (ps.getD q ⟨#[]⟩).size ++ (ps.getD q ⟨#[]⟩).data.toList)
def markMsg (k : UInt8) (ps : List ByteArray) : List UInt8 := markTo k ps ps.length
def markB (k : UInt8) (ps : List ByteArray) : List UInt8 := (sumB (markMsg k ps)).take 16
theorem extract_front (l : List UInt8) (n : Nat) : (⟨l.toArray⟩ : ByteArray).extract 0 n = ⟨(l.take n).toArray⟩ := by
  have h := data_extract l 0 n
  rw [List.drop_zero, Nat.sub_zero] at h
  rw [← h]
theorem sumB_length (l : List UInt8) : (sumB l).length = 32 := by unfold sumB; rw [wordsB_length]
theorem markTo_le (k : UInt8) (ps : List ByteArray) (q r : Nat) (h : q ≤ r) : (markTo k ps q).length ≤ (markTo k ps r).length := by
  induction r with
  | zero => obtain rfl : q = 0 := by omega
            exact Nat.le_refl _
  | succ r ih =>
    by_cases e : q = r + 1
    · subst e; exact Nat.le_refl _
    · have := ih (by omega)
      simp only [markTo, List.length_append]; omega
theorem markTo_ge (k : UInt8) (ps : List ByteArray) (q : Nat) : 8 * q ≤ (markTo k ps q).length := by
  induction q with
  | zero => omega
  | succ q ih => simp only [markTo, List.length_append]; rw [show (numB ((ps.getD q ⟨#[]⟩).size : Nat)).length = 8 from numTo_length _ _]; omega
/-- A slice of texts. -/
def textsAt (w : World) (p : Option Addr) (ps : List ByteArray) : Prop := ∀ j s, ps[j]? = some s → ∃ g o, p = some ⟨g, o, none⟩ ∧ g < w.heap.size ∧ w.cell? ⟨g, o + j, none⟩ = some (.string s)
theorem textsAt_of {w w' : World} {p : Option Addr} {ps : List ByteArray} (h : textsAt w p ps) (hh : ∀ k, k < w.heap.size → w'.heap[k]? = w.heap[k]?) (hs : w.heap.size ≤ w'.heap.size) : textsAt w' p ps := by
  intro j s hj
  obtain ⟨g, o, rfl, hg, hc⟩ := h j s hj
  exact ⟨g, o, rfl, Nat.lt_of_lt_of_le hg hs, by rw [cell_in] at hc ⊢; rw [hh g hg]; exact hc⟩

set_option maxRecDepth 100000 in
set_option maxHeartbeats 1000000 in
theorem mark_any (k : UInt8) (vk : Int) (ek : vk = k.toNat) (p : Option Addr) (ps : List ByteArray) (vn : Nat) (en : vn = ps.length) (cap : Nat) (w : World) (hp : textsAt w p ps) (hlen : (markMsg k ps).length ≤ 140737488355000) (hR : Rounds w) :
    Calls Tryz.prog 25 #[.int .u8 vk, .slice p vn cap] w fun r w' => r = .returned (.string ⟨(markB k ps).toArray⟩) ∧ ∃ x, w' = ext w x := by
  subst ek en
  have R := Lib.hid hR
  have PP := Lib.hid hp
  clear hR hp
  have hconv : (convert 92 9 (.slice (some ⟨w.heap.size, 0, none⟩) 1 1)).run Tryz.prog (w.alloc (.cells #[.int .u8 (k.toNat : Int)] 5)) = .ok (.string ⟨#[k]⟩) (w.alloc (.cells #[.int .u8 (k.toNat : Int)] 5)) := string_of_own (ownsC_row (base := w.heap.size) (w := w.alloc (.cells (rowB [k] #[]) 5)) (g := w.heap.size) (cap := 1) (l := [k]) (sp := #[]) (t := 5) (fz := (0, 0)) (heap_alloc_at _ _) (Nat.le_refl _) (by simp [rowB, B8]) (by unfold maxLen; omega) (Or.inr rfl))
  go_enter Tryz.func25, Tryz.ntmps25
  go_wp2_with fail
  go_loopw [13, 5] (fun i v wr => ∃ q : Nat, q ≤ ps.length ∧ i = .int .i64 q ∧ v = .string ⟨(markTo k ps q).toArray⟩ ∧ Hid (Below w.heap.size w wr)) (fun i _ _ => ps.length - (intOf i).toNat)
  case atStart => exact ⟨0, Nat.zero_le _, rfl, rfl, Lib.hid ((Below.refl _ _).alloc (Nat.le_refl _) _)⟩
  case round =>
    obtain ⟨q, hq, rfl, rfl, BB⟩ := hrel
    by_cases hlt : q < ps.length
    · obtain ⟨g, o, rfl, hg, hc⟩ := textsAt_of PP.out (fun j hj => BB.out.block j hj) BB.out.size q ps[q] (List.getElem?_eq_getElem hlt)
      have hgd : ps.getD q ⟨#[]⟩ = ps[q] := by simp [List.getD_eq_getElem?_getD, List.getElem?_eq_getElem hlt]
      have hm := markTo_le k ps (q + 1) ps.length hlt
      have hsz : (markTo k ps (q + 1)).length = (markTo k ps q).length + (8 + ps[q].size) := by
        simp only [markTo, hgd, List.length_append]; rw [show (numB ((ps[q].size : Nat) : Int)).length = 8 from numTo_length _ _, Array.length_toList]; rfl
      go_wp2_with fail
      refine (num_any (ps[q].size : Nat) wr).mono ?_
      rintro _ w2 ⟨rfl, hx⟩
      have BB2 := Lib.hid (BB.out.grown (grown_below (ext_iff.1 hx) none) BB.out.size (by rintro _ ⟨⟩))
      have hn8 : (numB ((ps[q].size : Nat) : Int)).length = 8 := numTo_length _ _
      have hml : (markMsg k ps).length = (markTo k ps ps.length).length := rfl
      have hA : ¬ 9223372036854775807 < (numB ((ps[q].size : Nat) : Int)).length + ps[q].size := by omega
      have hB : ¬ 9223372036854775807 < (markTo k ps q).length + ((numB ((ps[q].size : Nat) : Int)).length + ps[q].size) := by omega
      have hqb : q < 100000000000000 := by have := markTo_ge k ps q; omega
      have hstr : (⟨(markTo k ps q).toArray⟩ : ByteArray) ++ (⟨(numB ((ps[q].size : Nat) : Int)).toArray⟩ ++ ps[q]) = ⟨(markTo k ps (q + 1)).toArray⟩ := by
        rw [← str_eta ps[q], str_append, str_append]; simp only [markTo, hgd]
      have hstr := Lib.hid hstr
      clear hx hc hn8 hml hsz hm hgd
      go_wp2_with fail
      go_roundw
      case rel => exact ⟨q + 1, by omega, by go_num, rfl, BB2⟩
      case measure => simp [intOf]; omega
    · obtain rfl : q = ps.length := by omega
      have R2 := Rounds_of R.out (fun j hj => BB.out.block j hj) BB.out.size
      go_wp2_with fail
      refine (sum_any ⟨(markTo k ps ps.length).toArray⟩ wr (by show (markTo k ps ps.length).toArray.size ≤ _; rw [List.size_toArray]; exact hlen) R2).mono ?_
      rintro _ w2 ⟨rfl, hx⟩
      have h32 : (sumB (markTo k ps ps.length)).length = 32 := sumB_length _
      have h16 : 16 ≤ (sumB (markTo k ps ps.length)).length := by omega
      go_wp2_with fail
      go_ret
      refine ⟨?_, ext_of (BB.out.grown (grown_below (ext_iff.1 hx) none) BB.out.size (by rintro _ ⟨⟩))⟩
      rw [extract_front]; rfl
end Go.Proofs.YtnmpchojhbmbmaaGreatDoor
