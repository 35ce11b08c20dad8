/- oublietteref.R.Mark, Seal, Unseal (the walks). -/
import Derived.Test.YtjjadgcpmfmlfaaDoorProg
import Derived.Test.YtjjadgcpmfmlfaaDoorRefSum
import Derived.Test.YtjjadgcpmfmlfaaDoorRefXor
import Derived.Test.YtjjadgcpmfmlfaaDoorBox
import Derived.Test.YtjjadgcpmfmlfaaDoorSb
namespace Go.Proofs.YtjjadgcpmfmlfaaDoor
open Go.RowKit

set_option maxRecDepth 100000 in
set_option maxHeartbeats 1000000 in
theorem rmark_any (b : Nat) (k : UInt8) (vk : Int) (ek : vk = k.toNat) (p : Option Addr) (ps : List ByteArray) (vn : Nat) (en : vn = ps.length) (cap : Nat) (w : World) (hp : textsAt w p ps) (hlen : (markMsg k ps).length ≤ 140737488355000) (hR : isR w b) :
    Calls Tryd.prog 27 #[.pointer (some ⟨b, 0, none⟩), .int .u8 vk, .slice p vn cap] w fun r w' => r = .returned (.string ⟨(markB k ps).toArray⟩) ∧ ∃ x, w' = ext w x := by
  subst ek en
  have R := Lib.hid hR
  have PP := Lib.hid hp
  clear hR hp
  have hconv := string_of_byte w k
  go_enter Tryd.func27, Tryd.ntmps27
  go_wp2_with fail
  go_loopw [15, 7] (fun i v wr => ∃ q : Nat, q ≤ ps.length ∧ i = .int .i64 q ∧ v = .string ⟨(markTo k ps q).toArray⟩ ∧ Hid (Below w.heap.size w wr)) (fun i _ _ => ps.length - (intOf i).toNat)
  case atStart => exact ⟨0, Nat.zero_le _, rfl, rfl, Lib.hid ((Below.refl _ _).alloc (Nat.le_refl _) _)⟩
  case round =>
    obtain ⟨q, hq, rfl, rfl, BB⟩ := hrel
    by_cases hlt : q < ps.length
    · obtain ⟨g, o, rfl, hg, hc⟩ := textsAt_of PP.out (fun j hj => BB.out.block j hj) BB.out.size q ps[q] (List.getElem?_eq_getElem hlt)
      have hgd : ps.getD q ⟨#[]⟩ = ps[q] := by simp [List.getD_eq_getElem?_getD, List.getElem?_eq_getElem hlt]
      have hm := markTo_le k ps (q + 1) ps.length hlt
      have hsz : (markTo k ps (q + 1)).length = (markTo k ps q).length + (8 + ps[q].size) := by
        simp only [markTo, hgd, List.length_append]; rw [show (numB ((ps[q].size : Nat) : Int)).length = 8 from numTo_length _ _, Array.length_toList]; rfl
      go_wp2_with fail
      refine (rnum_any (ps[q].size : Nat) wr).mono ?_
      rintro _ w2 ⟨rfl, hx⟩
      have BB2 := Lib.hid (BB.out.grown (grown_below (ext_iff.1 hx) none) BB.out.size (by rintro _ ⟨⟩))
      have hn8 : (numB ((ps[q].size : Nat) : Int)).length = 8 := numTo_length _ _
      have hml : (markMsg k ps).length = (markTo k ps ps.length).length := rfl
      have hA : ¬ 9223372036854775807 < (markTo k ps q).length + (numB ((ps[q].size : Nat) : Int)).length := by omega
      have hB : ¬ 9223372036854775807 < (markTo k ps q).length + (numB ((ps[q].size : Nat) : Int)).length + ps[q].size := by omega
      have hqb : q < 100000000000000 := by have := markTo_ge k ps q; omega
      have hstr : ((⟨(markTo k ps q).toArray⟩ : ByteArray) ++ ⟨(numB ((ps[q].size : Nat) : Int)).toArray⟩) ++ ps[q] = ⟨(markTo k ps (q + 1)).toArray⟩ := by
        rw [← str_eta ps[q], str_append, str_append, List.append_assoc]; simp only [markTo, hgd]
      have hstr := Lib.hid hstr
      clear hx hc hn8 hml hsz hm hgd
      go_wp2_with fail
      go_roundw
      case rel => exact ⟨q + 1, by omega, by go_num, rfl, BB2⟩
      case measure => simp [intOf]; omega
    · obtain rfl : q = ps.length := by omega
      have R2 := isR_of R.out (fun j hj => BB.out.block j hj)
      go_wp2_with fail
      refine (rsum_any ⟨(markTo k ps ps.length).toArray⟩ b wr (by show (markTo k ps ps.length).toArray.size ≤ _; rw [List.size_toArray]; exact hlen) R2).mono ?_
      rintro _ w2 ⟨rfl, hx⟩
      have h32 : (sumB (markTo k ps ps.length)).length = 32 := sumB_length _
      have h16 : 16 ≤ (sumB (markTo k ps ps.length)).length := by omega
      go_wp2_with fail
      go_ret
      refine ⟨?_, ext_of (BB.out.grown (grown_below (ext_iff.1 hx) none) BB.out.size (by rintro _ ⟨⟩))⟩
      rw [extract_front]; rfl

theorem texts4' (w : World) (a b c d : ByteArray) (t : TypeId) : textsAt (w.alloc (.cells #[.string a, .string b, .string c, .string d] t)) (some ⟨w.heap.size, 0, none⟩) [a, b, c, d] := by
  intro j u hj
  refine ⟨w.heap.size, 0, rfl, by simp, ?_⟩
  rw [Nat.zero_add, World.cell?_alloc_new]
  match j, hj with
  | 0, hj => cases hj; rfl
  | 1, hj => cases hj; rfl
  | 2, hj => cases hj; rfl
  | 3, hj => cases hj; rfl
  | (j + 4), hj => simp at hj
/-- What is sealed, and what is wrong. -/
def sealR (key nonce wth text : ByteArray) : List UInt8 × Int := if 400 < text.size then ([], 4) else if key.size = 32 ∧ nonce.size = 12 then (sealB key nonce wth text, 0) else ([], 1)
theorem seal_all (key nonce wth text : ByteArray) (w : World) (hw : wth.size ≤ 1048576) (hR : Rounds w) :
    Calls Tryd.prog 29 #[.string key, .string nonce, .string wth, .string text] w fun r w' => r = .returned (.tuple #[.string ⟨(sealR key nonce wth text).1.toArray⟩, errOf (sealR key nonce wth text).2]) ∧ ∃ x, w' = ext w x := by
  unfold sealR
  by_cases h : 400 < text.size
  · rw [if_pos h]
    refine (seal_long key nonce wth text w h).mono ?_
    rintro _ _ ⟨rfl, hx⟩; exact ⟨rfl, hx⟩
  · rw [if_neg h]
    by_cases hk : key.size = 32 ∧ nonce.size = 12
    · rw [if_pos hk]; exact seal_any key nonce wth text w (by omega) hk.1 hk.2 hw hR
    · rw [if_neg hk]
      refine (seal_bad key nonce wth text w (by omega) hk).mono ?_
      rintro _ _ ⟨rfl, hx⟩; exact ⟨rfl, hx⟩
set_option maxRecDepth 100000 in
set_option maxHeartbeats 1000000 in
theorem rseal_all (b : Nat) (key nonce wth text : ByteArray) (w : World) (hw : wth.size ≤ 1048576) (hR : isR w b) :
    Calls Tryd.prog 28 #[.pointer (some ⟨b, 0, none⟩), .string key, .string nonce, .string wth, .string text] w fun r w' => r = .returned (.tuple #[.string ⟨(sealR key nonce wth text).1.toArray⟩, .int .i64 (sealR key nonce wth text).2]) ∧ ∃ x, w' = ext w x := by
  have R := Lib.hid hR
  clear hR
  unfold sealR
  by_cases h : 400 < text.size
  · rw [if_pos h]
    have hd : (400 : Int) < text.size := by omega
    go_enter Tryd.func28, Tryd.ntmps28
    go_wp2_with fail
    go_ret2
    exact ⟨rfl, ext_refl _⟩
  · rw [if_neg h]
    have hd : ¬ (400 : Int) < text.size := by omega
    have hX := fun w => rxor_all key nonce text w (by omega)
    by_cases hk : key.size = 32 ∧ nonce.size = 12
    · rw [if_pos hk]
      unfold xorR at hX
      rw [if_pos hk] at hX
      have K := Lib.hid hk
      have H400 := Lib.hid h
      have hl : (xorB key.data.toList nonce.data.toList text.data.toList).length = text.size := by rw [xorB_length, size_toL]
      have HT : Hid (sealB key nonce wth text = tagB key nonce wth ⟨(xorB key.data.toList nonce.data.toList text.data.toList).toArray⟩ ++ xorB key.data.toList nonce.data.toList text.data.toList) := Lib.hid rfl
      generalize xorB key.data.toList nonce.data.toList text.data.toList = X at hX hl HT
      clear hk h
      go_enter Tryd.func28, Tryd.ntmps28
      go_wp2_with fail
      refine (hX _).mono ?_
      rintro _ w1 ⟨rfl, hx⟩
      have HX := Lib.hid hx
      clear hx
      go_wp2_with fail
      refine (rmark_any b 103 103 rfl (some ⟨w1.heap.size, 0, none⟩) [key, nonce, wth, ⟨X.toArray⟩] 4 rfl 4 _ (texts4' _ _ _ _ _ _) (by rw [msg4, K.out.1, K.out.2, show (⟨X.toArray⟩ : ByteArray).size = X.length from rfl]; have := H400.out; omega) (isR_alloc (isR_ext R.out HX.out) _)).mono ?_
      rintro _ w2 ⟨rfl, hx⟩
      have HX2 := Lib.hid (ext_trans (ext_alloc _ HX.out) hx)
      clear hx HX
      have htl : (markB 103 [key, nonce, wth, ⟨X.toArray⟩]).length = 16 := tagB_length key nonce wth ⟨X.toArray⟩
      have HT2 : Hid (sealB key nonce wth text = markB 103 [key, nonce, wth, ⟨X.toArray⟩] ++ X) := HT
      generalize markB 103 [key, nonce, wth, ⟨X.toArray⟩] = T at htl HT2 ⊢
      have hnb : ¬ 9223372036854775807 < T.length + X.length := by have := H400.out; omega
      go_wp2_with fail
      go_ret2
      exact ⟨by rw [HT2.out, ← str_append]; rfl, HX2.out⟩
    · rw [if_neg hk]
      unfold xorR at hX
      rw [if_neg hk] at hX
      clear hk h
      go_enter Tryd.func28, Tryd.ntmps28
      go_wp2_with fail
      refine (hX _).mono ?_
      rintro _ w1 ⟨rfl, hx⟩
      have HX := Lib.hid hx
      clear hx
      go_wp2_with fail
      go_ret2
      exact ⟨rfl, HX.out⟩
instance (key nonce wth s : ByteArray) : Decidable (opens key nonce wth s) := by unfold opens; exact inferInstance
/-- What is opened, and what is wrong. -/
def openR (key nonce wth s : ByteArray) : List UInt8 × Int := if key.size = 32 ∧ nonce.size = 12 then (if opens key nonce wth s then (openB key nonce s, 0) else ([], 15)) else ([], 1)
theorem open_all (key nonce wth s : ByteArray) (w : World) (hw : wth.size ≤ 1048576) (hR : Rounds w) :
    Calls Tryd.prog 31 #[.string key, .string nonce, .string wth, .string s] w fun r w' => r = .returned (.tuple #[.string ⟨(openR key nonce wth s).1.toArray⟩, errOf (openR key nonce wth s).2]) ∧ ∃ x, w' = ext w x := by
  unfold openR
  by_cases hk : key.size = 32 ∧ nonce.size = 12
  · rw [if_pos hk]
    by_cases h : opens key nonce wth s
    · rw [if_pos h]; exact open_any key nonce wth s w hk.1 hk.2 hw hR h
    · rw [if_neg h]
      refine (open_spoilt key nonce wth s w hk.1 hk.2 hw hR h).mono ?_
      rintro _ _ ⟨rfl, hx⟩; exact ⟨rfl, hx⟩
  · rw [if_neg hk]
    refine (open_bad key nonce wth s w hk).mono ?_
    rintro _ _ ⟨rfl, hx⟩; exact ⟨rfl, hx⟩
set_option maxRecDepth 100000 in
set_option maxHeartbeats 1000000 in
theorem ropen_all (b : Nat) (key nonce wth s : ByteArray) (w : World) (hw : wth.size ≤ 1048576) (hR : isR w b) :
    Calls Tryd.prog 30 #[.pointer (some ⟨b, 0, none⟩), .string key, .string nonce, .string wth, .string s] w fun r w' => r = .returned (.tuple #[.string ⟨(openR key nonce wth s).1.toArray⟩, .int .i64 (openR key nonce wth s).2]) ∧ ∃ x, w' = ext w x := by
  have R := Lib.hid hR
  clear hR
  unfold openR
  by_cases hk : key.size = 32
  · by_cases hn : nonce.size = 12
    · rw [if_pos ⟨hk, hn⟩]
      have k1 : ((key.size : Int) != 32) = false := by rw [bne_eq_false_iff_eq]; omega
      have k2 : ((nonce.size : Int) != 12) = false := by rw [bne_eq_false_iff_eq]; omega
      have K1 := Lib.hid hk
      have K2 := Lib.hid hn
      clear hk hn
      by_cases hb : 16 ≤ s.size ∧ s.size ≤ 416
      · have HB := Lib.hid hb
        have hin := fun w => in_yes (s.size : Int) 16 416 (by omega) (by omega) w
        have i16 : (16 : Int) ≤ s.size := by omega
        have hxs : Hid ((s.extract 16 s.size).data.toList = s.data.toList.drop 16) := Lib.hid (rest_toList s 16)
        have hex : (s.extract 16 s.size).size = s.size - 16 := by rw [ByteArray.size_extract]; omega
        have hX := fun w => rxor_all key nonce (s.extract 16 s.size) w (by omega)
        unfold xorR at hX
        rw [if_pos ⟨K1.out, K2.out⟩, hxs.out] at hX
        clear hb
        obtain ⟨T, hT⟩ : ∃ T, T = tagB key nonce wth (s.extract 16 s.size) := ⟨_, rfl⟩
        have htl : T.length = 16 := by rw [hT]; exact tagB_length _ _ _ _
        have HOP : Hid (opens key nonce wth s ↔ T = s.data.toList.take 16) := Lib.hid (by rw [hT]; exact ⟨fun h => h.2.2, fun h => ⟨HB.out.1, HB.out.2, h⟩⟩)
        have HTm : Hid (markB 103 [key, nonce, wth, s.extract 16 s.size] = T) := Lib.hid (by rw [hT]; rfl)
        clear hT
        have hcat : (⟨T.toArray⟩ : ByteArray) ++ s.extract 16 s.size = ⟨(T ++ s.data.toList.drop 16).toArray⟩ := by
          rw [← str_eta (s.extract 16 s.size), hxs.out, str_append]
        have HCAT := Lib.hid hcat
        have hnb : ¬ 9223372036854775807 < T.length + (s.size - 16) := by have := HB.out; omega
        clear hcat
        by_cases hO : T = s.data.toList.take 16
        · rw [if_pos (HOP.out.2 hO)]
          have hEq : (!(((⟨T.toArray⟩ : ByteArray) ++ s.extract 16 s.size).toList == s.toList)) = false := by
            rw [HCAT.out, hO, List.take_append_drop, str_eta]; simp
          clear hO
          go_enter Tryd.func30, Tryd.ntmps30
          go_wp2_with fail
          refine (hin _).mono ?_
          rintro _ w1 ⟨rfl, rfl⟩
          go_wp2_with fail
          refine (rmark_any b 103 103 rfl (some ⟨w.heap.size, 0, none⟩) [key, nonce, wth, s.extract 16 s.size] 4 rfl 4 _ (texts4' _ _ _ _ _ _) (by rw [msg4, K1.out, K2.out, hex]; have := HB.out; omega) (isR_alloc R.out _)).mono ?_
          rintro _ w2 ⟨rfl, hx⟩
          rw [HTm.out]
          have HX2 := Lib.hid (ext_trans (ext_alloc _ (ext_refl w)) hx)
          clear hx hin
          go_wp2_with fail
          refine (hX _).mono ?_
          rintro _ w3 ⟨rfl, hx⟩
          have HX3 := Lib.hid (ext_trans HX2.out hx)
          clear hx
          go_wp2_with fail
          go_ret2
          exact ⟨rfl, HX3.out⟩
        · rw [if_neg (fun h => hO (HOP.out.1 h))]
          have hEq : (!(((⟨T.toArray⟩ : ByteArray) ++ s.extract 16 s.size).toList == s.toList)) = true := by
            rw [HCAT.out, Lib.toList_data, Lib.toList_data, Bool.not_eq_true', beq_eq_false_iff_ne]
            intro e
            have e2 := congrArg (fun x : List UInt8 => x.take 16) e
            dsimp only at e2
            rw [List.take_left' htl] at e2
            exact hO e2
          clear hO
          go_enter Tryd.func30, Tryd.ntmps30
          go_wp2_with fail
          refine (hin _).mono ?_
          rintro _ w1 ⟨rfl, rfl⟩
          go_wp2_with fail
          refine (rmark_any b 103 103 rfl (some ⟨w.heap.size, 0, none⟩) [key, nonce, wth, s.extract 16 s.size] 4 rfl 4 _ (texts4' _ _ _ _ _ _) (by rw [msg4, K1.out, K2.out, hex]; have := HB.out; omega) (isR_alloc R.out _)).mono ?_
          rintro _ w2 ⟨rfl, hx⟩
          rw [HTm.out]
          have HX2 := Lib.hid (ext_trans (ext_alloc _ (ext_refl w)) hx)
          clear hx hin
          go_wp2_with fail
          go_ret2
          exact ⟨rfl, HX2.out⟩
      · rw [if_neg (fun h => hb ⟨h.1, h.2.1⟩)]
        have hin := fun w => in_no (s.size : Int) 16 416 (by omega) w
        clear hb
        go_enter Tryd.func30, Tryd.ntmps30
        go_wp2_with fail
        refine (hin _).mono ?_
        rintro _ w1 ⟨rfl, rfl⟩
        go_wp2_with fail
        go_ret2
        exact ⟨rfl, ext_refl _⟩
    · rw [if_neg (fun h => hn h.2)]
      have k1 : ((key.size : Int) != 32) = false := by rw [bne_eq_false_iff_eq]; omega
      have k2 : ((nonce.size : Int) != 12) = true := by rw [bne_iff_ne]; omega
      clear hk hn
      go_enter Tryd.func30, Tryd.ntmps30
      go_wp2_with fail
      go_ret2
      exact ⟨rfl, ext_refl _⟩
  · rw [if_neg (fun h => hk h.1)]
    have k1 : ((key.size : Int) != 32) = true := by rw [bne_iff_ne]; omega
    clear hk
    go_enter Tryd.func30, Tryd.ntmps30
    go_wp2_with fail
    go_ret2
    exact ⟨rfl, ext_refl _⟩
end Go.Proofs.YtjjadgcpmfmlfaaDoor
