/- stream.Block where it refuses; stream.Xor. · oublietteref.Xor (the walk). · Package box. -/
import Derived.Test.YtnmpchojhbmbmaaGreatDoorG5
import Derived.Test.YtnmpchojhbmbmaaGreatDoorProg
import Derived.Test.YtnmpchojhbmbmaaGreatDoorG16
import Derived.Test.YtnmpchojhbmbmaaGreatDoorG8
import Derived.Lib.Strings
namespace Go.Proofs.YtnmpchojhbmbmaaGreatDoor
open Go.RowKit

/-- Byte i of the stream. -/
def streamAt (key nonce : List UInt8) (i : Nat) : UInt8 := (block key (1 + i / 64) nonce).getD (i % 64) 0
/-- The first d bytes taken together with the stream's. -/
def xorTo (key nonce s : List UInt8) (d : Nat) : List UInt8 := s.mapIdx fun i c => if i < d then c ^^^ streamAt key nonce i else c
def xorB (key nonce s : List UInt8) : List UInt8 := s.mapIdx fun i c => c ^^^ streamAt key nonce i
theorem xorTo_length (key nonce s : List UInt8) (d : Nat) : (xorTo key nonce s d).length = s.length := by simp [xorTo]
theorem xorB_length (key nonce s : List UInt8) : (xorB key nonce s).length = s.length := by simp [xorB]
theorem xorTo_zero (key nonce s : List UInt8) : xorTo key nonce s 0 = s := by
  apply List.ext_getElem?; intro i; simp [xorTo]
theorem xorTo_all (key nonce s : List UInt8) (d : Nat) (h : s.length ≤ d) : xorTo key nonce s d = xorB key nonce s := by
  apply List.ext_getElem?; intro i
  simp only [xorTo, xorB, List.getElem?_mapIdx]
  rcases Nat.lt_or_ge i s.length with hi | hi
  · rw [List.getElem?_eq_getElem hi]; simp only [Option.map_some]; rw [if_pos (by omega)]
  · rw [List.getElem?_eq_none hi]; rfl
theorem xorTo_succ (key nonce s : List UInt8) (d : Nat) (h : d < s.length) : (xorTo key nonce s d).set d (s[d] ^^^ streamAt key nonce d) = xorTo key nonce s (d + 1) := by
  apply List.ext_getElem?; intro i
  rw [List.getElem?_set, xorTo_length]
  simp only [xorTo, List.getElem?_mapIdx]
  by_cases hi : d = i
  · subst hi; simp [h]
  · rw [if_neg hi]
    rcases Nat.lt_or_ge i s.length with hl | hl
    · rw [List.getElem?_eq_getElem hl]; simp only [Option.map_some]
      by_cases h2 : i < d
      · rw [if_pos h2, if_pos (by omega)]
      · rw [if_neg h2, if_neg (by omega)]
    · rw [List.getElem?_eq_none hl]; rfl
theorem xorTo_get (key nonce s : List UInt8) (d : Nat) (h : d < s.length) (h' : d < (xorTo key nonce s d).length) : (xorTo key nonce s d)[d] = s[d] := by
  simp [xorTo]

theorem block_length (key : List UInt8) (n : Nat) (nonce : List UInt8) : (block key n nonce).length = 64 := outB_length _ _ 16

end Go.Proofs.YtnmpchojhbmbmaaGreatDoor
namespace Go.Proofs.YtnmpchojhbmbmaaGreatDoor
open Go.RowKit

/-- The first m blocks, from number 1 on. -/
def blocksB (key nonce : List UInt8) (m : Nat) : List UInt8 := (List.range m).flatMap fun j => block key (1 + j) nonce
theorem blocksB_succ (key nonce : List UInt8) (m : Nat) : blocksB key nonce (m + 1) = blocksB key nonce m ++ block key (1 + m) nonce := by simp [blocksB, List.range_succ]
theorem blocksB_length (key nonce : List UInt8) (m : Nat) : (blocksB key nonce m).length = 64 * m := by
  induction m with
  | zero => rfl
  | succ m ih => rw [blocksB_succ, List.length_append, ih, block_length]; omega
theorem blocksB_get (key nonce : List UInt8) (m i : Nat) (h : i < 64 * m) : (blocksB key nonce m).getD i 0 = streamAt key nonce i := by
  induction m with
  | zero => omega
  | succ m ih =>
    rw [blocksB_succ, List.getD_eq_getElem?_getD]
    by_cases hi : i < 64 * m
    · rw [List.getElem?_append_left (by rw [blocksB_length]; exact hi), ← List.getD_eq_getElem?_getD, ih hi]
    · rw [List.getElem?_append_right (by rw [blocksB_length]; omega), blocksB_length, ← List.getD_eq_getElem?_getD]
      unfold streamAt
      rw [show i / 64 = m by omega, show i % 64 = i - 64 * m by omega]

end Go.Proofs.YtnmpchojhbmbmaaGreatDoor
namespace Go.Proofs.YtnmpchojhbmbmaaGreatDoor
open Go.RowKit

/-- What tells that nothing was changed. -/
def tagB (key nonce wth s : ByteArray) : List UInt8 := markB 103 [key, nonce, wth, s]
theorem tagB_length (key nonce wth s : ByteArray) : (tagB key nonce wth s).length = 16 := by unfold tagB markB; rw [List.length_take, sumB_length]; omega
theorem msg4 (k : UInt8) (a b c d : ByteArray) : (markMsg k [a, b, c, d]).length = 33 + a.size + b.size + c.size + d.size := by
  have n8 : ∀ n : Int, (numB n).length = 8 := fun n => numTo_length _ _
  have hl : ∀ s : ByteArray, s.data.toList.length = s.size := fun s => by rw [Array.length_toList]; rfl
  unfold markMsg
  simp only [List.length_cons, List.length_nil, markTo, List.length_append, n8, hl, List.getD_cons_zero, List.getD_cons_succ]
  omega

/-- What a text is sealed as. -/
def sealB (key nonce wth text : ByteArray) : List UInt8 :=
  tagB key nonce wth ⟨(xorB key.data.toList nonce.data.toList text.data.toList).toArray⟩ ++ xorB key.data.toList nonce.data.toList text.data.toList
theorem size_toL (s : ByteArray) : s.data.toList.length = s.size := by rw [Array.length_toList]; rfl
theorem sealB_length (key nonce wth text : ByteArray) : (sealB key nonce wth text).length = 16 + text.size := by
  unfold sealB; rw [List.length_append, tagB_length, xorB_length, size_toL]

/-- It was sealed so. -/
def opens (key nonce wth s : ByteArray) : Prop := 16 ≤ s.size ∧ s.size ≤ 416 ∧ tagB key nonce wth (s.extract 16 s.size) = s.data.toList.take 16
def openB (key nonce s : ByteArray) : List UInt8 := xorB key.data.toList nonce.data.toList (s.data.toList.drop 16)

theorem front_toList (s : ByteArray) (n : Nat) : (s.extract 0 n).toList = s.data.toList.take n := by
  rw [Lib.extract_toList, List.drop_zero, Nat.sub_zero]
theorem rest_toList (s : ByteArray) (n : Nat) : (s.extract n s.size).data.toList = s.data.toList.drop n := by
  have h := data_extract s.data.toList n s.size
  rw [str_eta] at h
  rw [h, List.take_of_length_le (by rw [List.length_drop, size_toL]; omega)]
end Go.Proofs.YtnmpchojhbmbmaaGreatDoor
