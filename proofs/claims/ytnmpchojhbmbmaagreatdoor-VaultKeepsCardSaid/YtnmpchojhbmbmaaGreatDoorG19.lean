/- oublietteref.R.Mark, Seal, Unseal (the walks). -/
import Derived.Test.YtnmpchojhbmbmaaGreatDoorProg
import Derived.Test.YtnmpchojhbmbmaaGreatDoorG15
import Derived.Test.YtnmpchojhbmbmaaGreatDoorG17
import Derived.Test.YtnmpchojhbmbmaaGreatDoorG18
namespace Go.Proofs.YtnmpchojhbmbmaaGreatDoor
open Go.RowKit

set_option maxRecDepth 100000 in
set_option maxHeartbeats 1000000 in
theorem rmark_any (b : Nat) (k : UInt8) (vk : Int) (ek : vk = k.toNat) (p : Option Addr) (ps : List ByteArray) (vn : Nat) (en : vn = ps.length) (cap : Nat) (w : World) (hp : textsAt w p ps) (hlen : (markMsg k ps).length ≤ 140737488355000) (hR : isR w b) :
    Calls Tryz.prog 36 #[.pointer (some ⟨b, 0, none⟩), .int .u8 vk, .slice p vn cap] w fun r w' => r = .returned (.string ⟨(markB k ps).toArray⟩) ∧ ∃ x, w' = ext w x := by
  subst ek en
  have R := Lib.hid hR
  have PP := Lib.hid hp
  clear hR hp
  have hconv := string_of_byte w k
  go_enter Tryz.func36, Tryz.ntmps36
  go_wp2_with fail
  go_loopw [15, 7] (fun i v wr => ∃ q : Nat, q ≤ ps.length ∧ i = .int .i64 q ∧ v = .string ⟨(markTo k ps q).toArray⟩ ∧ Hid (Below w.heap.size w wr)) (fun i _ _ => ps.length - (intOf i).toNat)
  case atStart => exact ⟨0, Nat.zero_le _, rfl, rfl, Lib.hid ((Below.refl _ _).alloc (Nat.le_refl _) _)⟩
  case round =>
    obtain ⟨q, hq, rfl, rfl, BB⟩ := hrel
    by_cases hlt : q < ps.length
    · obtain ⟨g, o, rfl, hg, hc⟩ := textsAt_of PP.out (fun j hj => BB.out.block j hj) BB.out.size q ps[q] (List.getElem?_eq_getElem hlt)
      have hgd : ps.getD q ⟨#[]⟩ = ps[q] := by simp [List.getD_eq_getElem?_getD, List.getElem?_eq_getElem hlt]
      have hm := markTo_le k ps (q + 1) ps.length hlt
      have hsz : (markTo k ps (q + 1)).length = (markTo k ps q).length + (8 + ps[q].size) := by
        simp only [markTo, hgd, List.length_append]; rw [show (numB ((ps[q].size : Nat) : Int)).length = 8 from numTo_length _ _, Array.length_toList]; rfl
      go_wp2_with fail
      refine (rnum_any (ps[q].size : Nat) wr).mono ?_
      rintro _ w2 ⟨rfl, hx⟩
      have BB2 := Lib.hid (BB.out.grown (grown_below (ext_iff.1 hx) none) BB.out.size (by rintro _ ⟨⟩))
      have hn8 : (numB ((ps[q].size : Nat) : Int)).length = 8 := numTo_length _ _
      have hml : (markMsg k ps).length = (markTo k ps ps.length).length := rfl
      have hA : ¬ 9223372036854775807 < (markTo k ps q).length + (numB ((ps[q].size : Nat) : Int)).length := by omega
      have hB : ¬ 9223372036854775807 < (markTo k ps q).length + (numB ((ps[q].size : Nat) : Int)).length + ps[q].size := by omega
      have hqb : q < 100000000000000 := by have := markTo_ge k ps q; omega
      have hstr : ((⟨(markTo k ps q).toArray⟩ : ByteArray) ++ ⟨(numB ((ps[q].size : Nat) : Int)).toArray⟩) ++ ps[q] = ⟨(markTo k ps (q + 1)).toArray⟩ := by
        rw [← str_eta ps[q], str_append, str_append, List.append_assoc]; simp only [markTo, hgd]
      have hstr := Lib.hid hstr
      clear hx hc hn8 hml hsz hm hgd
      go_wp2_with fail
      go_roundw
      case rel => exact ⟨q + 1, by omega, by go_num, rfl, BB2⟩
      case measure => simp [intOf]; omega
    · obtain rfl : q = ps.length := by omega
      have R2 := isR_of R.out (fun j hj => BB.out.block j hj)
      go_wp2_with fail
      refine (rsum_any ⟨(markTo k ps ps.length).toArray⟩ b wr (by show (markTo k ps ps.length).toArray.size ≤ _; rw [List.size_toArray]; exact hlen) R2).mono ?_
      rintro _ w2 ⟨rfl, hx⟩
      have h32 : (sumB (markTo k ps ps.length)).length = 32 := sumB_length _
      have h16 : 16 ≤ (sumB (markTo k ps ps.length)).length := by omega
      go_wp2_with fail
      go_ret
      refine ⟨?_, ext_of (BB.out.grown (grown_below (ext_iff.1 hx) none) BB.out.size (by rintro _ ⟨⟩))⟩
      rw [extract_front]; rfl

theorem texts4' (w : World) (a b c d : ByteArray) (t : TypeId) : textsAt (w.alloc (.cells #[.string a, .string b, .string c, .string d] t)) (some ⟨w.heap.size, 0, none⟩) [a, b, c, d] := by
  intro j u hj
  refine ⟨w.heap.size, 0, rfl, by simp, ?_⟩
  rw [Nat.zero_add, World.cell?_alloc_new]
  match j, hj with
  | 0, hj => cases hj; rfl
  | 1, hj => cases hj; rfl
  | 2, hj => cases hj; rfl
  | 3, hj => cases hj; rfl
  | (j + 4), hj => simp at hj
/-- What is sealed, and what is wrong. -/
def sealR (key nonce wth text : ByteArray) : List UInt8 × Int := if 400 < text.size then ([], 4) else if key.size = 32 ∧ nonce.size = 12 then (sealB key nonce wth text, 0) else ([], 1)
instance (key nonce wth s : ByteArray) : Decidable (opens key nonce wth s) := by unfold opens; exact inferInstance
/-- What is opened, and what is wrong. -/
def openR (key nonce wth s : ByteArray) : List UInt8 × Int := if key.size = 32 ∧ nonce.size = 12 then (if opens key nonce wth s then (openB key nonce s, 0) else ([], 15)) else ([], 1)
end Go.Proofs.YtnmpchojhbmbmaaGreatDoor
