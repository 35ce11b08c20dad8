/- oubliettelaw.SumTells (the walk). -/
import Derived.Test.YtjmbobjifojoiaaDoorProg
import Derived.Test.YtjmbobjifojoiaaDoorRefMark
import Derived.Test.YtjmbobjifojoiaaDoorRefHex
namespace Go.Proofs.YtjmbobjifojoiaaDoor
open Go.RowKit

theorem markTo_small (k : UInt8) (ps : List ByteArray) (h : ∀ (j : Nat) (s : ByteArray), ps[j]? = some s → s.size ≤ 60) : ∀ q, (markTo k ps q).length ≤ 1 + 68 * q
  | 0 => by simp [markTo]
  | q + 1 => by
    have ih := markTo_small k ps h q
    have h8 : ∀ n : Int, (numB n).length = 8 := fun n => numTo_length _ _
    have hd : (ps.getD q ⟨#[]⟩).data.toList.length ≤ 60 := by
      rw [Array.length_toList]
      show (ps.getD q ⟨#[]⟩).size ≤ 60
      rw [List.getD_eq_getElem?_getD]
      cases e : ps[q]? with
      | none => exact Nat.zero_le _
      | some s => exact h q s e
    show (markTo k ps q ++ (numB (ps.getD q ⟨#[]⟩).size ++ (ps.getD q ⟨#[]⟩).data.toList)).length ≤ _
    rw [List.length_append, List.length_append, h8]
    omega

set_option maxRecDepth 100000 in
set_option maxHeartbeats 4000000 in
theorem st_core (s : ByteArray) (n : Int) (k : UInt8) (p : Option Addr) (ps : List ByteArray) (cap : Nat) (w : World) (hs : s.size ≤ 400) (hp : textsAt w p ps) (h10 : ps.length ≤ 10) (hR : Rounds w) (hT : Bruijn w) :
    Calls Tryd.prog 4 #[.string s, .int .i64 n, .int .u8 (k.toNat : Int), .slice p ps.length cap] w fun r w' => r = .returned (.bool true) ∧ ∃ x, w' = ext w x := by
  have R := Lib.hid hR
  have BT := Lib.hid hT
  have PP := Lib.hid hp
  clear hR hT hp
  have d1 : ¬ (400 : Int) < s.size := by omega
  have d2 : ¬ (10 : Int) < ps.length := by omega
  go_enter Tryd.func4, Tryd.ntmps4
  go_wp2_with fail
  go_loopw [9] (fun iv wr => ∃ q : Nat, q ≤ ps.length ∧ iv = .int .i64 q ∧ Hid (∀ (j : Nat) (u : ByteArray), j < q → ps[j]? = some u → u.size ≤ 60) ∧ wr = w) (fun iv _ => ps.length - (intOf iv).toNat)
  case atStart => exact ⟨0, Nat.zero_le _, rfl, Lib.hid (fun j u h => by omega), rfl⟩
  case round =>
    obtain ⟨q, hq, rfl, HQ, rfl⟩ := hrel
    by_cases hlt : q < ps.length
    · obtain ⟨g, o, rfl, hg, hc⟩ := PP.out q ps[q] (List.getElem?_eq_getElem hlt)
      have hu : ps[q]? = some ps[q] := List.getElem?_eq_getElem hlt
      cases hl : decide ((60 : Int) < ps[q].size) with
      | true =>
        go_wp2_with fail
        refine (long_any _ _).mono ?_
        rintro _ w1 ⟨rfl, rfl⟩
        rw [hl]
        go_wp2_with fail
        go_ret
        exact ⟨rfl, ext_refl _⟩
      | false =>
        have HQ2 : Hid (∀ (j : Nat) (u : ByteArray), j < q + 1 → ps[j]? = some u → u.size ≤ 60) := Lib.hid (fun j u h e => by
          by_cases hj : j = q
          · subst hj
            rw [hu] at e; cases e
            have := of_decide_eq_false hl; omega
          · exact HQ.out j u (by omega) e)
        go_wp2_with fail
        refine (long_any _ _).mono ?_
        rintro _ w1 ⟨rfl, rfl⟩
        rw [hl]
        clear hl hc hu
        go_wp2_with fail
        go_roundw
        case rel => exact ⟨q + 1, by omega, by go_num, HQ2, by first | rfl | trivial⟩
        case measure => simp [intOf]; omega
    · obtain rfl : q = ps.length := by omega
      have hall : ∀ (j : Nat) (u : ByteArray), ps[j]? = some u → u.size ≤ 60 := fun j u e => HQ.out j u (List.getElem?_eq_some_iff.1 e).1 e
      have HM : Hid ((markMsg k ps).length ≤ 140737488355000) := Lib.hid (by have := markTo_small k ps hall ps.length; unfold markMsg; omega)
      clear HQ hall
      have S1 := fun w h => sum_any s w (by omega) h
      have S2 := fun b w h => rsum_any s b w (by omega) h
      generalize sumB s.data.toList = S at S1 S2
      have X1 := fun w => hex_any s w (by omega)
      have X2 := fun w h => rhex_any s w (by omega) h
      generalize hexB s.data.toList = X at X1 X2
      have N1 := num_any n
      have N2 := rnum_any n
      generalize numB n = N at N1 N2
      have M1 := fun w hp h => mark_any k k.toNat rfl p ps ps.length rfl cap w hp HM.out h
      have M2 := fun b w hp h => rmark_any b k k.toNat rfl p ps ps.length rfl cap w hp HM.out h
      generalize markB k ps = M at M1 M2
      have hSS : (S == S) = true := by simp
      have hXX : (X == X) = true := by simp
      have hNN : (N == N) = true := by simp
      have hMM : (M == M) = true := by simp
      go_wp2_with fail
      refine (new_any _).mono ?_
      rintro _ w1 ⟨b, rfl, hb, -, hx⟩
      have E1 := Lib.hid hx
      have B1 := Lib.hid hb
      clear hx hb
      go_wp2_with fail
      refine (S1 _ (Rounds_ext R.out E1.out)).mono ?_
      rintro _ w2 ⟨rfl, hx⟩
      have E2 := Lib.hid (ext_trans E1.out hx)
      have B2 := Lib.hid (isR_ext B1.out hx)
      clear hx E1 B1 S1
      go_wp2_with fail
      refine (S2 _ _ B2.out).mono ?_
      rintro _ w3 ⟨rfl, hx⟩
      have E3 := Lib.hid (ext_trans E2.out hx)
      have B3 := Lib.hid (isR_ext B2.out hx)
      clear hx E2 B2 S2
      go_wp2_with fail
      refine (X1 _).mono ?_
      rintro _ w4 ⟨rfl, hx⟩
      have E4 := Lib.hid (ext_trans E3.out hx)
      have B4 := Lib.hid (isR_ext B3.out hx)
      clear hx E3 B3 X1
      go_wp2_with fail
      refine (X2 _ (Bruijn_ext BT.out E4.out)).mono ?_
      rintro _ w5 ⟨rfl, hx⟩
      have E5 := Lib.hid (ext_trans E4.out hx)
      have B5 := Lib.hid (isR_ext B4.out hx)
      clear hx E4 B4 X2
      go_wp2_with fail
      refine (N1 _).mono ?_
      rintro _ w6 ⟨rfl, hx⟩
      have E6 := Lib.hid (ext_trans E5.out hx)
      have B6 := Lib.hid (isR_ext B5.out hx)
      clear hx E5 B5 N1
      go_wp2_with fail
      refine (N2 _).mono ?_
      rintro _ w7 ⟨rfl, hx⟩
      have E7 := Lib.hid (ext_trans E6.out hx)
      have B7 := Lib.hid (isR_ext B6.out hx)
      clear hx E6 B6 N2
      go_wp2_with fail
      refine (M1 _ (textsAt_of PP.out (fun k hk => (ext_iff.1 E7.out).block k hk) (ext_iff.1 E7.out).size) (Rounds_ext R.out E7.out)).mono ?_
      rintro _ w8 ⟨rfl, hx⟩
      have E8 := Lib.hid (ext_trans E7.out hx)
      have B8 := Lib.hid (isR_ext B7.out hx)
      clear hx E7 B7 M1
      go_wp2_with fail
      refine (M2 _ _ (textsAt_of PP.out (fun k hk => (ext_iff.1 E8.out).block k hk) (ext_iff.1 E8.out).size) B8.out).mono ?_
      rintro _ w9 ⟨rfl, hx⟩
      have E9 := Lib.hid (ext_trans E8.out hx)
      clear hx E8 B8 M2
      go_wp2_with fail
      go_ret
      exact ⟨rfl, E9.out⟩

set_option maxRecDepth 100000 in
set_option maxHeartbeats 1000000 in
theorem st_any (s : ByteArray) (n : Int) (k : UInt8) (p : Option Addr) (ps : List ByteArray) (cap : Nat) (w : World) (hp : textsAt w p ps) (hR : Rounds w) (hT : Bruijn w) :
    Calls Tryd.prog 4 #[.string s, .int .i64 n, .int .u8 (k.toNat : Int), .slice p ps.length cap] w fun r w' => r = .returned (.bool true) ∧ ∃ x, w' = ext w x := by
  by_cases hs : s.size ≤ 400
  · by_cases h10 : ps.length ≤ 10
    · exact st_core s n k p ps cap w hs hp h10 hR hT
    · have d1 : ¬ (400 : Int) < s.size := by omega
      have d2 : (10 : Int) < ps.length := by omega
      clear hs h10
      go_enter Tryd.func4, Tryd.ntmps4
      go_wp2_with fail
      go_ret
      exact ⟨rfl, ext_refl _⟩
  · have d1 : (400 : Int) < s.size := by omega
    clear hs
    go_enter Tryd.func4, Tryd.ntmps4
    go_wp2_with fail
    go_ret
    exact ⟨rfl, ext_refl _⟩
end Go.Proofs.YtjmbobjifojoiaaDoor
