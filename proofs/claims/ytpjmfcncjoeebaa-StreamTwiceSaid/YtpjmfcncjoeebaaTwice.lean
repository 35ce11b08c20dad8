/- oubliettekeep.StreamTwice returns true. -/
import Derived.Test.YtpjmfcncjoeebaaStreamed
import Derived.Test.YtpjmfcncjoeebaaPick
namespace Go.Proofs.Ytpjmfcncjoeebaa
open Go.RowKit

theorem xorB_twice (key nonce s : List UInt8) : xorB key nonce (xorB key nonce s) = s := by
  apply List.ext_getElem?; intro i
  simp only [xorB, List.getElem?_mapIdx, Option.map_map]
  rcases Nat.lt_or_ge i s.length with hi | hi
  · rw [List.getElem?_eq_getElem hi]; simp only [Option.map_some, Function.comp]
    rw [UInt8.xor_assoc, UInt8.xor_self, UInt8.xor_zero]
  · rw [List.getElem?_eq_none hi]; rfl
theorem xorB_take (key nonce s : List UInt8) (r : Nat) : xorB key nonce (s.take r) = (xorB key nonce s).take r := by
  apply List.ext_getElem?; intro i
  simp only [xorB, List.getElem?_mapIdx, List.getElem?_take]
  split
  · rfl
  · rfl
theorem xorB_get (key nonce s : List UInt8) (i : Nat) (h : i < s.length) (h' : i < (xorB key nonce s).length) : (xorB key nonce s)[i] = s[i] ^^^ streamAt key nonce i := by
  simp [xorB]
theorem xor_both (a b k : UInt8) : (a ^^^ k) ^^^ (b ^^^ k) = a ^^^ b := by
  rw [UInt8.xor_comm b k, UInt8.xor_assoc, ← UInt8.xor_assoc k k b, UInt8.xor_self, UInt8.zero_xor]

set_option maxRecDepth 100000 in
set_option maxHeartbeats 1000000 in
theorem twice_long (key nonce s t : ByteArray) (cut : Int) (w : World) (h : 40 < key.size ∨ 40 < nonce.size ∨ 300 < s.size ∨ 300 < t.size) :
    Calls Try.prog 3 #[.string key, .string nonce, .string s, .string t, .int .i64 cut] w fun r w' => r = .returned (.bool true) ∧ ∃ x, w' = ext w x := by
  by_cases h1 : 40 < key.size
  · have d1 : decide ((40 : Int) < key.size) = true := decide_eq_true (by omega)
    clear h
    go_enter Try.func3, Try.ntmps3
    go_wp2
    go_ret
    exact ⟨rfl, ext_refl _⟩
  · by_cases h2 : 40 < nonce.size
    · clear h
      go_enter Try.func3, Try.ntmps3
      go_wp2
      go_ret
      exact ⟨rfl, ext_refl _⟩
    · by_cases h3 : 300 < s.size
      · clear h
        go_enter Try.func3, Try.ntmps3
        go_wp2
        go_ret
        exact ⟨rfl, ext_refl _⟩
      · have h4 : 300 < t.size := by omega
        clear h
        go_enter Try.func3, Try.ntmps3
        go_wp2
        go_ret
        exact ⟨rfl, ext_refl _⟩

set_option maxRecDepth 100000 in
set_option maxHeartbeats 1000000 in
theorem twice_bad (key nonce s t : ByteArray) (cut : Int) (w : World) (h1 : key.size ≤ 40) (h2 : nonce.size ≤ 40) (h3 : s.size ≤ 300) (h4 : t.size ≤ 300) (h : ¬ (key.size = 32 ∧ nonce.size = 12)) :
    Calls Try.prog 3 #[.string key, .string nonce, .string s, .string t, .int .i64 cut] w fun r w' => r = .returned (.bool true) ∧ ∃ x, w' = ext w x := by
  have H := Lib.hid h
  clear h
  go_enter Try.func3, Try.ntmps3
  go_wp2_with fail
  refine (streamed_any _).mono ?_
  rintro _ w1 ⟨rfl, X1⟩
  go_wp2_with fail
  refine (xor_bad key nonce s _ H.out (by omega)).mono ?_
  rintro _ w2 ⟨rfl, X2⟩
  go_wp2_with fail
  refine (xor_bad key nonce t _ H.out (by omega)).mono ?_
  rintro _ w3 ⟨rfl, X3⟩
  have X := Lib.hid (ext_trans (ext_trans X1 X2) X3)
  clear X1 X2 X3
  by_cases hk : key.size = 32
  · have hn : ((nonce.size : Int) != 12) = true := by rw [bne_iff_ne]; have := H.out; omega
    clear H
    go_wp2_with fail
    go_ret
    exact ⟨rfl, X.out⟩
  · have hn : ((key.size : Int) != 32) = true := by rw [bne_iff_ne]; omega
    clear H hk
    go_wp2_with fail
    go_ret
    exact ⟨rfl, X.out⟩

set_option maxRecDepth 100000 in
set_option maxHeartbeats 1000000 in
theorem twice_good (key nonce s t : ByteArray) (cut : Int) (w : World) (hk : key.size = 32) (hn : nonce.size = 12) (h3 : s.size ≤ 300) (h4 : t.size ≤ 300) :
    Calls Try.prog 3 #[.string key, .string nonce, .string s, .string t, .int .i64 cut] w fun r w' => r = .returned (.bool true) ∧ ∃ x, w' = ext w x := by
  have lS : s.data.toList.length = s.size := by rw [Array.length_toList]; rfl
  have lT : t.data.toList.length = t.size := by rw [Array.length_toList]; rfl
  have K1 : Hid (key.size = 32) := hk
  have K2 : Hid (nonce.size = 12) := hn
  obtain ⟨a, ha⟩ : ∃ a : ByteArray, a = ⟨(xorB key.data.toList nonce.data.toList s.data.toList).toArray⟩ := ⟨_, rfl⟩
  obtain ⟨b, hb⟩ : ∃ b : ByteArray, b = ⟨(xorB key.data.toList nonce.data.toList t.data.toList).toArray⟩ := ⟨_, rfl⟩
  have A := Lib.hid ha
  have B := Lib.hid hb
  have sA : Hid (a.size = s.size) := by rw [ha]; exact Lib.hid ((xorB_length _ _ _).trans lS)
  have sB : Hid (b.size = t.size) := by rw [hb]; exact Lib.hid ((xorB_length _ _ _).trans lT)
  have LS := Lib.hid lS
  have LT := Lib.hid lT
  clear lS lT ha hb
  go_enter Try.func3, Try.ntmps3
  go_wp2_with fail
  clear hk hn
  refine (streamed_any _).mono ?_
  rintro _ w1 ⟨rfl, X1⟩
  go_wp2_with fail
  refine (xor_any key nonce s _ K1.out K2.out (by omega)).mono ?_
  rintro _ w2 ⟨rfl, X2⟩
  rw [← A.out]
  go_wp2_with fail
  refine (xor_any key nonce t _ K1.out K2.out (by omega)).mono ?_
  rintro _ w3 ⟨rfl, X3⟩
  rw [← B.out]
  go_wp2_with fail
  refine (xor_any key nonce a _ K1.out K2.out (by have := sA.out; omega)).mono ?_
  rintro _ w4 ⟨rfl, X4⟩
  have X := Lib.hid (ext_trans (ext_trans (ext_trans X1 X2) X3) X4)
  clear X1 X2 X3 X4
  rw [show xorB key.data.toList nonce.data.toList a.data.toList = s.data.toList by rw [A.out]; exact xorB_twice _ _ _, str_eta]
  have hsz : ((a.size : Int) != (s.size : Int)) = false := by rw [sA.out]; simp
  go_wp2_with fail
  go_loopw [17] (fun i wr => ∃ k : Nat, i = .int .i64 k ∧ k ≤ s.size ∧ Hid (∃ x, wr = ext w x)) (fun i _ => s.size - (intOf i).toNat)
  case atStart => exact ⟨0, rfl, by omega, X.out⟩
  case round =>
    clear X
    obtain ⟨k, rfl, hk, X⟩ := hrel
    by_cases hlt : k < s.size ∧ k < t.size
    · obtain ⟨g1, g2⟩ := hlt
      have g3 : k < a.size := by rw [sA.out]; exact g1
      have g4 : k < b.size := by rw [sB.out]; exact g2
      have e1 : a[k] = s[k] ^^^ streamAt key.data.toList nonce.data.toList k := by
        have hl : k < s.data.toList.length := by rw [LS.out]; exact g1
        have hl' : k < (xorB key.data.toList nonce.data.toList s.data.toList).length := by rw [xorB_length]; exact hl
        rw [get_data a k g3, A.out]
        show (xorB _ _ _).getD k 0 = _
        rw [List.getD_eq_getElem?_getD, List.getElem?_eq_getElem hl', Option.getD_some, xorB_get _ _ _ _ hl hl']; rfl
      have e2 : b[k] = t[k] ^^^ streamAt key.data.toList nonce.data.toList k := by
        have hl : k < t.data.toList.length := by rw [LT.out]; exact g2
        have hl' : k < (xorB key.data.toList nonce.data.toList t.data.toList).length := by rw [xorB_length]; exact hl
        rw [get_data b k g4, B.out]
        show (xorB _ _ _).getD k 0 = _
        rw [List.getD_eq_getElem?_getD, List.getElem?_eq_getElem hl', Option.getD_some, xorB_get _ _ _ _ hl hl']; rfl
      have e3 : bits .xor .u8 ((a[k].toNat : Nat) : Int) ((b[k].toNat : Nat) : Int) = bits .xor .u8 ((s[k].toNat : Nat) : Int) ((t[k].toNat : Nat) : Int) := by
        rw [xor8, xor8, e1, e2, xor_both]
      clear e1 e2
      have d1 : decide ((k : Int) < s.size) = true := decide_eq_true (by omega)
      have d2 : decide ((k : Int) < t.size) = true := decide_eq_true (by omega)
      have i1 : (k : Int) < a.size := by omega
      have i2 : (k : Int) < b.size := by omega
      go_wp2_with fail
      refine wp_region_ext (by kernel_rfl) (by kernel_rfl) ?_
      repeat (go_big_quiet_step (fail))
      refine wpQuiet_nil ?_
      rintro _ ⟨x2, rfl⟩
      go_wp2_with fail
      go_roundw
      case rel => exact ⟨k + 1, by go_num, by omega, ext_ext _ X.out⟩
      case measure => simp [intOf]; omega
    · by_cases g1 : k < s.size
      · have d1 : decide ((k : Int) < s.size) = true := decide_eq_true (by omega)
        have d2 : decide ((k : Int) < t.size) = false := decide_eq_false (by omega)
        go_wp2_with fail
        refine (pick_any cut (s.size + 1) _ (by omega) (by omega) _ (by omega)).mono ?_
        rintro _ w5 ⟨rfl, X5⟩
        have hr := pickN_lt cut (s.size + 1) (by omega)
        generalize pickN cut (s.size + 1) = r at hr ⊢
        have r1 : (r : Int) ≤ s.size := by omega
        have X6 := Lib.hid (ext_trans X.out X5)
        clear X X5
        go_wp2_with fail
        refine (xor_any key nonce _ _ K1.out K2.out (by rw [ByteArray.size_extract]; omega)).mono ?_
        rintro _ w6 ⟨rfl, X7⟩
        have X := Lib.hid (ext_trans X6.out X7)
        clear X6 X7
        have r2 : (r : Int) ≤ a.size := by rw [sA.out]; exact r1
        have hx : a.extract 0 r = ⟨(xorB key.data.toList nonce.data.toList (s.extract 0 r).data.toList).toArray⟩ := by
          apply ByteArray.ext; apply Array.ext'
          show (a.extract 0 r).data.toList = _
          rw [Lib.extract_data, Lib.extract_data, A.out, List.drop_zero, List.drop_zero, xorB_take]
        generalize xorB key.data.toList nonce.data.toList (s.extract 0 r).data.toList = L at hx ⊢
        go_wp2_with fail
        go_ret
        exact ⟨rfl, X.out⟩
      · have d1 : decide ((k : Int) < s.size) = false := decide_eq_false (by omega)
        go_wp2_with fail
        refine (pick_any cut (s.size + 1) _ (by omega) (by omega) _ (by omega)).mono ?_
        rintro _ w5 ⟨rfl, X5⟩
        have hr := pickN_lt cut (s.size + 1) (by omega)
        generalize pickN cut (s.size + 1) = r at hr ⊢
        have r1 : (r : Int) ≤ s.size := by omega
        have X6 := Lib.hid (ext_trans X.out X5)
        clear X X5
        go_wp2_with fail
        refine (xor_any key nonce _ _ K1.out K2.out (by rw [ByteArray.size_extract]; omega)).mono ?_
        rintro _ w6 ⟨rfl, X7⟩
        have X := Lib.hid (ext_trans X6.out X7)
        clear X6 X7
        have r2 : (r : Int) ≤ a.size := by rw [sA.out]; exact r1
        have hx : a.extract 0 r = ⟨(xorB key.data.toList nonce.data.toList (s.extract 0 r).data.toList).toArray⟩ := by
          apply ByteArray.ext; apply Array.ext'
          show (a.extract 0 r).data.toList = _
          rw [Lib.extract_data, Lib.extract_data, A.out, List.drop_zero, List.drop_zero, xorB_take]
        generalize xorB key.data.toList nonce.data.toList (s.extract 0 r).data.toList = L at hx ⊢
        go_wp2_with fail
        go_ret
        exact ⟨rfl, X.out⟩

theorem twice_any (key nonce s t : ByteArray) (cut : Int) (w : World) :
    Calls Try.prog 3 #[.string key, .string nonce, .string s, .string t, .int .i64 cut] w fun r w' => r = .returned (.bool true) ∧ ∃ x, w' = ext w x := by
  by_cases h : 40 < key.size ∨ 40 < nonce.size ∨ 300 < s.size ∨ 300 < t.size
  · exact twice_long key nonce s t cut w h
  · by_cases h2 : key.size = 32 ∧ nonce.size = 12
    · exact twice_good key nonce s t cut w h2.1 h2.2 (by omega) (by omega)
    · exact twice_bad key nonce s t cut w (by omega) (by omega) (by omega) (by omega) h2
end Go.Proofs.Ytpjmfcncjoeebaa
