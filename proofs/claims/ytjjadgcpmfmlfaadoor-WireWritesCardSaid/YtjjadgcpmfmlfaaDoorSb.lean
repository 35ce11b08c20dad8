/- oubliettelaw.StreamBlocks (the walk). -/
import Derived.Test.YtjjadgcpmfmlfaaDoorProg
import Derived.Test.YtjjadgcpmfmlfaaDoorRefXor
import Derived.Test.YtjjadgcpmfmlfaaDoorTell
namespace Go.Proofs.YtjjadgcpmfmlfaaDoor
open Go.RowKit

/-- An Errno as an error. -/
def errOf (e : Int) : Value := if e = 0 then .nilIface else errV e
theorem errOf_is (e : Int) : IsErr (errOf e) := by
  unfold errOf; split
  · exact .nil
  · exact .no e
theorem errOf_num (e : Int) : (errNum (errOf e) == e) = true := by
  unfold errOf; split
  · rename_i h; rw [h]; rfl
  · exact beq_self_eq_true e
def okB (key nonce : ByteArray) (n : Int) : Prop := key.size = 32 ∧ nonce.size = 12 ∧ 0 ≤ n ∧ n < 4294967296
instance (key nonce : ByteArray) (n : Int) : Decidable (okB key nonce n) := by unfold okB; exact inferInstance
/-- What a block is, and what is wrong. -/
def blockR (key : ByteArray) (n : Int) (nonce : ByteArray) : List UInt8 × Int := if okB key nonce n then (block key.data.toList n.toNat nonce.data.toList, 0) else ([], 1)
theorem rblock_all (key nonce : ByteArray) (n : Int) (w : World) :
    Calls Tryd.prog 14 #[.string key, .int .i64 n, .string nonce] w fun r w' => r = .returned (.tuple #[.string ⟨(blockR key n nonce).1.toArray⟩, .int .i64 (blockR key n nonce).2]) ∧ ∃ x, w' = ext w x := by
  unfold blockR
  by_cases h : okB key nonce n
  · rw [if_pos h]
    obtain ⟨h1, h2, h3, h4⟩ := h
    obtain ⟨m, rfl⟩ := Int.eq_ofNat_of_zero_le h3
    exact rblock_any key nonce m w h1 h2 (by omega)
  · rw [if_neg h]; exact rblock_bad key nonce n w h
theorem block_all (key nonce : ByteArray) (n : Int) (w : World) :
    Calls Tryd.prog 15 #[.string key, .int .i64 n, .string nonce] w fun r w' => r = .returned (.tuple #[.string ⟨(blockR key n nonce).1.toArray⟩, errOf (blockR key n nonce).2]) ∧ ∃ x, w' = ext w x := by
  unfold blockR
  by_cases h : okB key nonce n
  · rw [if_pos h]
    obtain ⟨h1, h2, h3, h4⟩ := h
    exact block_any key nonce n.toNat w h1 h2 (by omega) n (by omega)
  · rw [if_neg h]
    refine (block_bad key nonce n w h).mono ?_
    rintro _ _ ⟨rfl, hx⟩; exact ⟨rfl, hx⟩
/-- What a text is together with blocks, and what is wrong. -/
def xorR (key nonce s : ByteArray) : List UInt8 × Int := if key.size = 32 ∧ nonce.size = 12 then (xorB key.data.toList nonce.data.toList s.data.toList, 0) else ([], 1)
theorem rxor_all (key nonce s : ByteArray) (w : World) (hs : s.size ≤ 1048576) :
    Calls Tryd.prog 17 #[.string key, .string nonce, .string s] w fun r w' => r = .returned (.tuple #[.string ⟨(xorR key nonce s).1.toArray⟩, .int .i64 (xorR key nonce s).2]) ∧ ∃ x, w' = ext w x := by
  unfold xorR
  by_cases h : key.size = 32 ∧ nonce.size = 12
  · rw [if_pos h]; exact rxor_any key nonce s w h.1 h.2 hs
  · rw [if_neg h]; exact rxor_bad key nonce s w h
theorem xor_all (key nonce s : ByteArray) (w : World) (hs : s.size ≤ 1048576) :
    Calls Tryd.prog 18 #[.string key, .string nonce, .string s] w fun r w' => r = .returned (.tuple #[.string ⟨(xorR key nonce s).1.toArray⟩, errOf (xorR key nonce s).2]) ∧ ∃ x, w' = ext w x := by
  unfold xorR
  by_cases h : key.size = 32 ∧ nonce.size = 12
  · rw [if_pos h]; exact xor_any key nonce s w h.1 h.2 hs
  · rw [if_neg h]
    refine (xor_bad key nonce s w h hs).mono ?_
    rintro _ _ ⟨rfl, hx⟩; exact ⟨rfl, hx⟩

set_option maxRecDepth 100000 in
set_option maxHeartbeats 2000000 in
theorem sb_any (key nonce s : ByteArray) (n : Int) (w : World) (hE : ErrT w) :
    Calls Tryd.prog 3 #[.string key, .int .i64 n, .string nonce, .string s] w fun r w' => r = .returned (.bool true) ∧ ∃ x, w' = ext w x := by
  have ET := Lib.hid hE
  clear hE
  go_enter Tryd.func3, Tryd.ntmps3
  cases h1 : decide ((60 : Int) < key.size) with
  | true =>
    go_wp2_with fail
    refine (long_any _ _).mono ?_
    rintro _ w1 ⟨rfl, rfl⟩
    rw [h1]
    go_wp2_with fail
    go_ret
    exact ⟨rfl, ext_refl _⟩
  | false =>
    cases h2 : decide ((60 : Int) < nonce.size) with
    | true =>
      go_wp2_with fail
      refine (long_any _ _).mono ?_
      rintro _ w1 ⟨rfl, rfl⟩
      rw [h1]
      go_wp2_with fail
      refine (long_any _ _).mono ?_
      rintro _ w1 ⟨rfl, rfl⟩
      rw [h2]
      go_wp2_with fail
      go_ret
      exact ⟨rfl, ext_refl _⟩
    | false =>
      cases h3 : decide ((300 : Int) < s.size) with
      | true =>
        go_wp2_with fail
        refine (long_any _ _).mono ?_
        rintro _ w1 ⟨rfl, rfl⟩
        rw [h1]
        go_wp2_with fail
        refine (long_any _ _).mono ?_
        rintro _ w1 ⟨rfl, rfl⟩
        rw [h2]
        go_wp2_with fail
        go_ret
        exact ⟨rfl, ext_refl _⟩
      | false =>
        have hs : s.size ≤ 1048576 := by have := of_decide_eq_false h3; omega
        have HS := Lib.hid hs
        clear hs
        go_wp2_with fail
        refine (long_any _ _).mono ?_
        rintro _ w1 ⟨rfl, rfl⟩
        rw [h1]
        go_wp2_with fail
        refine (long_any _ _).mono ?_
        rintro _ w1 ⟨rfl, rfl⟩
        rw [h2]
        go_wp2_with fail
        clear h1 h2 h3
        have R1 := fun w => rblock_all key nonce n w
        have P1 := fun w => block_all key nonce n w
        have R2 := fun w => rxor_all key nonce s w HS.out
        have P2 := fun w => xor_all key nonce s w HS.out
        generalize blockR key n nonce = B at R1 P1
        generalize xorR key nonce s = X at R2 P2
        obtain ⟨B, e⟩ := B
        obtain ⟨X, f⟩ := X
        dsimp only at R1 P1 R2 P2
        refine (R1 _).mono ?_
        rintro _ w1 ⟨rfl, hx⟩
        have X1 := Lib.hid hx
        clear hx
        go_wp2_with fail
        refine (P1 _).mono ?_
        rintro _ w2 ⟨rfl, hx⟩
        have X2 := Lib.hid (ext_trans X1.out hx)
        clear hx X1
        go_wp2_with fail
        refine (bare_any _ (errOf_is e) e _ (ErrT_ext ET.out X2.out)).mono ?_
        rintro _ w3 ⟨rfl, hx⟩
        have X3 := Lib.hid (ext_trans X2.out hx)
        clear hx X2
        rw [errOf_num]
        have hBB : (B != B) = false := by simp
        have hXX : (X == X) = true := by simp
        go_wp2_with fail
        refine (R2 _).mono ?_
        rintro _ w4 ⟨rfl, hx⟩
        have X4 := Lib.hid (ext_trans X3.out hx)
        clear hx X3
        go_wp2_with fail
        refine (P2 _).mono ?_
        rintro _ w5 ⟨rfl, hx⟩
        have X5 := Lib.hid (ext_trans X4.out hx)
        clear hx X4
        go_wp2_with fail
        refine (bare_any _ (errOf_is f) f _ (ErrT_ext ET.out X5.out)).mono ?_
        rintro _ w6 ⟨rfl, hx⟩
        have X6 := Lib.hid (ext_trans X5.out hx)
        clear hx X5
        rw [errOf_num]
        go_wp2_with fail
        go_ret
        exact ⟨rfl, X6.out⟩
theorem sb_all (key : ByteArray) (n : Int) (nonce s : ByteArray) (w : World) (hE : ErrT w) :
    Calls Tryd.prog 3 #[.string key, .int .i64 n, .string nonce, .string s] w fun r w' => r = .returned (.bool true) ∧ ∃ x, w' = ext w x := sb_any key nonce s n w hE
end Go.Proofs.YtjjadgcpmfmlfaaDoor
