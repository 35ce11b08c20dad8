/- oubliettekeep.BoxSpoilt (printed by wip/bin/gen_spoilt.py). -/
import Derived.Test.YtpjmfcncjoeebaaDoorProg
import Derived.Test.YtpjmfcncjoeebaaDoorSealed
import Derived.Test.YtpjmfcncjoeebaaDoorFlip
import Derived.Test.YtpjmfcncjoeebaaDoorTell
namespace Go.Proofs.YtpjmfcncjoeebaaDoor
open Go.RowKit

theorem texts4 (w : World) (a b c d : ByteArray) (t : TypeId) : textsAt (w.alloc (.cells #[.string a, .string b, .string c, .string d] t)) (some ⟨w.heap.size, 0, none⟩) [a, b, c, d] := by
  intro j u hj
  refine ⟨w.heap.size, 0, rfl, by simp, ?_⟩
  rw [Nat.zero_add, World.cell?_alloc_new]
  match j, hj with
  | 0, hj => cases hj; rfl
  | 1, hj => cases hj; rfl
  | 2, hj => cases hj; rfl
  | 3, hj => cases hj; rfl
  | (j + 4), hj => simp at hj
theorem flipB_size (s : ByteArray) (bit : Int) : (⟨(flipB s bit).toArray⟩ : ByteArray).size = s.size := by
  show (flipB s bit).toArray.size = _
  rw [List.size_toArray, flipB_length]
theorem ext_data (s : ByteArray) (a b : Nat) : (s.extract a b).data.toList = (s.data.toList.drop a).take (b - a) := by
  have h := data_extract s.data.toList a b
  rw [str_eta] at h; exact h
theorem same_text {s t : ByteArray} (h : s.data.toList = t.data.toList) : s = t := ByteArray.ext (Array.toList_inj.1 h)
theorem spoilt_mark (key nonce wth s : ByteArray) (bit : Int) (T : List UInt8) (h1 : tagB key nonce wth (s.extract 16 s.size) = T) (h2 : T = s.data.toList.take 16) (hO : opens key nonce wth ⟨(flipB s bit).toArray⟩) :
    (⟨(flipB s bit).toArray⟩ : ByteArray).data.toList.take 16 = T := by
  rcases flipB_parts s bit 16 with h | h
  · have e : (⟨(flipB s bit).toArray⟩ : ByteArray).extract 16 (⟨(flipB s bit).toArray⟩ : ByteArray).size = s.extract 16 s.size := by
      apply same_text
      rw [rest_toList, rest_toList]
      exact h
    rw [← hO.2.2, e, h1]
  · rw [h2]; exact h
theorem spoilt_cut (key nonce wth s : ByteArray) (c : Nat) (T : List UInt8) (h2 : T = s.data.toList.take 16) (hO : opens key nonce wth (s.extract 0 c)) : (s.extract 0 c).data.toList.take 16 = T := by
  have h16 := hO.1
  rw [ByteArray.size_extract] at h16
  rw [ext_data, h2, List.drop_zero, Nat.sub_zero, List.take_take, Nat.min_eq_left (by omega)]

set_option maxRecDepth 100000 in
set_option maxHeartbeats 2000000 in
theorem spoilt_long (key nonce wth text : ByteArray) (what bit : Int) (w : World) (h : ¬ (key.size ≤ 40 ∧ nonce.size ≤ 40 ∧ wth.size ≤ 60 ∧ text.size ≤ 450)) :
    Calls Tryd.prog 8 #[.string key, .string nonce, .string wth, .string text, .int .i64 what, .int .i64 bit] w fun r w' => r = .returned (.bool true) ∧ ∃ x, w' = ext w x := by
  have H := Lib.hid h
  clear h
  go_enter Tryd.func8, Tryd.ntmps8
  go_wp2_with fail
  all_goals first
    | (exfalso; exact H.out ⟨by omega, by omega, by omega, by omega⟩)
    | (go_ret; exact ⟨rfl, ext_refl w⟩)
set_option maxRecDepth 100000 in
set_option maxHeartbeats 2000000 in
theorem spoilt_bad (key nonce wth text : ByteArray) (what bit : Int) (w : World) (hk : key.size ≤ 40) (hn : nonce.size ≤ 40) (hw : wth.size ≤ 60) (ht : text.size ≤ 450) (hR : Rounds w) (h : ¬ (key.size = 32 ∧ nonce.size = 12 ∧ text.size ≤ 400)) :
    Calls Tryd.prog 8 #[.string key, .string nonce, .string wth, .string text, .int .i64 what, .int .i64 bit] w fun r w' => r = .returned (.bool true) ∧ ∃ x, w' = ext w x := by
  have R := Lib.hid hR
  have H := Lib.hid h
  clear hR h
  go_enter Tryd.func8, Tryd.ntmps8
  go_wp2_with fail
  refine (sealed_any _ R.out).mono ?_
  rintro _ w1 ⟨rfl, h1⟩
  go_wp2_with fail
  by_cases h4 : 400 < text.size
  · refine (seal_long key nonce wth text _ h4).mono ?_
    rintro _ w3 ⟨rfl, h3⟩
    go_wp2_with fail
    go_ret
    exact ⟨rfl, ext_trans h1 h3⟩
  · refine (seal_bad key nonce wth text _ (by omega) (fun e => H.out ⟨e.1, e.2, by omega⟩)).mono ?_
    rintro _ w3 ⟨rfl, h3⟩
    go_wp2_with fail
    go_ret
    exact ⟨rfl, ext_trans h1 h3⟩

set_option maxRecDepth 100000 in
set_option maxHeartbeats 8000000 in
theorem spoilt_0 (key nonce wth text : ByteArray) (what bit : Int) (w : World) (hk : key.size = 32) (hn : nonce.size = 12) (hw : wth.size ≤ 60) (ht : text.size ≤ 400) (hR : Rounds w) (hE : ErrT w) (hp : pickN what 5 = 0) :
    Calls Tryd.prog 8 #[.string key, .string nonce, .string wth, .string text, .int .i64 what, .int .i64 bit] w fun r w' => r = .returned (.bool true) ∧ ∃ x, w' = ext w x := by
  have R := Lib.hid hR
  have ET := Lib.hid hE
  have K1 := Lib.hid hk
  have K2 := Lib.hid hn
  have k40 : key.size ≤ 40 := by omega
  have n40 : nonce.size ≤ 40 := by omega
  have HP := Lib.hid hp
  clear hR hE hk hn hp
  go_enter Tryd.func8, Tryd.ntmps8
  go_wp2_with fail
  refine (sealed_any _ R.out).mono ?_
  rintro _ w1 ⟨rfl, h1⟩
  go_wp2_with fail
  refine (seal_any key nonce wth text _ ht K1.out K2.out (by omega) (Rounds_ext R.out h1)).mono ?_
  rintro _ w2 ⟨rfl, h2⟩
  have hO := opens_seal key nonce wth text ht
  have hSl := sealB_length key nonce wth text
  generalize sealB key nonce wth text = S at hO hSl ⊢
  obtain ⟨s, hs⟩ : ∃ s : ByteArray, s = ⟨S.toArray⟩ := ⟨_, rfl⟩
  rw [← hs] at hO ⊢
  have hss : s.size = 16 + text.size := by rw [hs, ← hSl]; exact List.size_toArray
  clear hs hSl
  have hs16 : 16 ≤ s.size := by omega
  have hsm : s.size ≤ 416 := by omega
  have i16 : (16 : Int) ≤ s.size := by omega
  have HO := Lib.hid hO
  have HX2 := Lib.hid (ext_trans h1 h2)
  clear hO hss h1 h2
  go_wp2_with fail
  refine (mark_any 103 103 rfl (some ⟨w2.heap.size, 0, none⟩) [key, nonce, wth, s.extract 16 s.size] 4 rfl 4 _ (texts4 _ _ _ _ _ _) (by rw [msg4, K1.out, K2.out, ByteArray.size_extract]; omega) (Rounds_alloc (Rounds_ext R.out HX2.out) _)).mono ?_
  rintro _ w3 ⟨rfl, h3⟩
  have HX3 := Lib.hid (ext_trans (ext_alloc _ HX2.out) h3)
  clear h3 HX2
  have HT : Hid (markB 103 [key, nonce, wth, s.extract 16 s.size] = s.data.toList.take 16) := Lib.hid HO.out.2.2
  have HTag : Hid (tagB key nonce wth (s.extract 16 s.size) = markB 103 [key, nonce, wth, s.extract 16 s.size]) := Lib.hid rfl
  generalize markB 103 [key, nonce, wth, s.extract 16 s.size] = T at HT HTag ⊢
  go_wp2_with fail
  refine (pick_any what 5 _ (by decide) (by decide) 5 rfl).mono ?_
  rintro _ w4 ⟨rfl, h4⟩
  rw [HP.out]
  have HX4 := Lib.hid (ext_trans HX3.out h4)
  clear h4 HX3
  go_wp2_with fail
  refine (flip_any s bit _ (by omega)).mono ?_
  rintro _ w4b ⟨rfl, h4b⟩
  have HX := Lib.hid (ext_trans HX4.out h4b)
  clear h4b HX4
  have HOP : Hid (opens key nonce wth ⟨(flipB s bit).toArray⟩ → (⟨(flipB s bit).toArray⟩ : ByteArray).data.toList.take 16 = T) := Lib.hid (spoilt_mark key nonce wth s bit T HTag.out HT.out)
  have hs2m : (⟨(flipB s bit).toArray⟩ : ByteArray).size ≤ 416 := by rw [flipB_size]; exact hsm
  generalize (⟨(flipB s bit).toArray⟩ : ByteArray) = s2 at HOP hs2m ⊢
  -- open, compare, tell
  have X1 := HX
  go_wp2_with fail
  by_cases hO : opens key nonce wth s2
  · have htk : s2.data.toList.take 16 = T := HOP.out hO
    have h16 := hO.1
    have h416 := hO.2.1
    have htag : tagB key nonce wth (s2.extract 16 s2.size) = T := by rw [← htk]; exact hO.2.2
    refine (open_any key nonce wth s2 _ K1.out K2.out (show wth.size ≤ 1048576 by omega) (Rounds_ext R.out HX.out) hO).mono ?_
    rintro _ w5 ⟨rfl, h5⟩
    have HX5 := Lib.hid (ext_trans HX.out h5)
    have e1 : ((s2.extract 0 16).toList == T) = true := by rw [beq_iff_eq, front_toList]; exact htk
    have HT2 := Lib.hid htag
    have i16 : (16 : Int) ≤ s2.size := by omega
    clear hO htk htag h5 HX X1
    go_wp2_with fail
    refine (mark_any 103 103 rfl (some ⟨w5.heap.size, 0, none⟩) [key, nonce, wth, s2.extract 16 s2.size] 4 rfl 4 _ (texts4 _ _ _ _ _ _) (by rw [msg4, K1.out, K2.out, ByteArray.size_extract]; have := (show wth.size ≤ 1048576 by omega); omega) (Rounds_alloc (Rounds_ext R.out HX5.out) _)).mono ?_
    rintro _ w6 ⟨rfl, h6⟩
    rw [show markB 103 [key, nonce, wth, s2.extract 16 s2.size] = T from HT2.out]
    have HX6 := Lib.hid (ext_trans (ext_alloc _ HX5.out) h6)
    clear h6 HX5
    go_wp2_with fail
    go_ret
    exact ⟨rfl, HX6.out⟩
  · refine (open_spoilt key nonce wth s2 _ K1.out K2.out (show wth.size ≤ 1048576 by omega) (Rounds_ext R.out HX.out) hO).mono ?_
    rintro _ w5 ⟨rfl, h5⟩
    have HX5 := Lib.hid (ext_trans HX.out h5)
    clear hO h5 HX X1
    by_cases h16 : 16 ≤ s2.size
    · have i16 : (16 : Int) ≤ s2.size := by omega
      cases e1 : ((s2.extract 0 16).toList == T) with
      | false =>
        go_wp2_with fail
        refine (tell_any _ (.no 15) _ (ErrT_ext ET.out HX5.out)).mono ?_
        rintro _ w6 ⟨rfl, h6⟩
        go_wp2_with fail
        go_ret
        exact ⟨rfl, ext_trans HX5.out h6⟩
      | true =>
        go_wp2_with fail
        refine (mark_any 103 103 rfl (some ⟨w5.heap.size, 0, none⟩) [key, nonce, wth, s2.extract 16 s2.size] 4 rfl 4 _ (texts4 _ _ _ _ _ _) (by rw [msg4, K1.out, K2.out, ByteArray.size_extract]; have := (show wth.size ≤ 1048576 by omega); omega) (Rounds_alloc (Rounds_ext R.out HX5.out) _)).mono ?_
        rintro _ w6 ⟨rfl, h6⟩
        have HX6 := Lib.hid (ext_trans (ext_alloc _ HX5.out) h6)
        clear h6 HX5
        generalize markB 103 [key, nonce, wth, s2.extract 16 s2.size] = T2
        cases e2 : (T2 == T) with
        | false =>
          go_wp2_with fail
          refine (tell_any _ (.no 15) _ (ErrT_ext ET.out HX6.out)).mono ?_
          rintro _ w7 ⟨rfl, h7⟩
          go_wp2_with fail
          go_ret
          exact ⟨rfl, ext_trans HX6.out h7⟩
        | true =>
          go_wp2_with fail
          go_ret
          exact ⟨rfl, HX6.out⟩
    · first
        | omega
        | (go_wp2_with fail
           refine (tell_any _ (.no 15) _ (ErrT_ext ET.out HX5.out)).mono ?_
           rintro _ w6 ⟨rfl, h6⟩
           go_wp2_with fail
           go_ret
           exact ⟨rfl, ext_trans HX5.out h6⟩)

set_option maxRecDepth 100000 in
set_option maxHeartbeats 8000000 in
theorem spoilt_1 (key nonce wth text : ByteArray) (what bit : Int) (w : World) (hk : key.size = 32) (hn : nonce.size = 12) (hw : wth.size ≤ 60) (ht : text.size ≤ 400) (hR : Rounds w) (hE : ErrT w) (hp : pickN what 5 = 1) :
    Calls Tryd.prog 8 #[.string key, .string nonce, .string wth, .string text, .int .i64 what, .int .i64 bit] w fun r w' => r = .returned (.bool true) ∧ ∃ x, w' = ext w x := by
  have R := Lib.hid hR
  have ET := Lib.hid hE
  have K1 := Lib.hid hk
  have K2 := Lib.hid hn
  have k40 : key.size ≤ 40 := by omega
  have n40 : nonce.size ≤ 40 := by omega
  have HP := Lib.hid hp
  clear hR hE hk hn hp
  go_enter Tryd.func8, Tryd.ntmps8
  go_wp2_with fail
  refine (sealed_any _ R.out).mono ?_
  rintro _ w1 ⟨rfl, h1⟩
  go_wp2_with fail
  refine (seal_any key nonce wth text _ ht K1.out K2.out (by omega) (Rounds_ext R.out h1)).mono ?_
  rintro _ w2 ⟨rfl, h2⟩
  have hO := opens_seal key nonce wth text ht
  have hSl := sealB_length key nonce wth text
  generalize sealB key nonce wth text = S at hO hSl ⊢
  obtain ⟨s, hs⟩ : ∃ s : ByteArray, s = ⟨S.toArray⟩ := ⟨_, rfl⟩
  rw [← hs] at hO ⊢
  have hss : s.size = 16 + text.size := by rw [hs, ← hSl]; exact List.size_toArray
  clear hs hSl
  have hs16 : 16 ≤ s.size := by omega
  have hsm : s.size ≤ 416 := by omega
  have i16 : (16 : Int) ≤ s.size := by omega
  have HO := Lib.hid hO
  have HX2 := Lib.hid (ext_trans h1 h2)
  clear hO hss h1 h2
  go_wp2_with fail
  refine (mark_any 103 103 rfl (some ⟨w2.heap.size, 0, none⟩) [key, nonce, wth, s.extract 16 s.size] 4 rfl 4 _ (texts4 _ _ _ _ _ _) (by rw [msg4, K1.out, K2.out, ByteArray.size_extract]; omega) (Rounds_alloc (Rounds_ext R.out HX2.out) _)).mono ?_
  rintro _ w3 ⟨rfl, h3⟩
  have HX3 := Lib.hid (ext_trans (ext_alloc _ HX2.out) h3)
  clear h3 HX2
  have HT : Hid (markB 103 [key, nonce, wth, s.extract 16 s.size] = s.data.toList.take 16) := Lib.hid HO.out.2.2
  have HTag : Hid (tagB key nonce wth (s.extract 16 s.size) = markB 103 [key, nonce, wth, s.extract 16 s.size]) := Lib.hid rfl
  generalize markB 103 [key, nonce, wth, s.extract 16 s.size] = T at HT HTag ⊢
  go_wp2_with fail
  refine (pick_any what 5 _ (by decide) (by decide) 5 rfl).mono ?_
  rintro _ w4 ⟨rfl, h4⟩
  rw [HP.out]
  have HX4 := Lib.hid (ext_trans HX3.out h4)
  clear h4 HX3
  go_wp2_with fail
  refine (flip_any key bit _ (by omega)).mono ?_
  rintro _ w4b ⟨rfl, h4b⟩
  have HX := Lib.hid (ext_trans HX4.out h4b)
  clear h4b HX4
  have K3 : Hid ((⟨(flipB key bit).toArray⟩ : ByteArray).size = 32) := Lib.hid (by rw [flipB_size]; exact K1.out)
  generalize (⟨(flipB key bit).toArray⟩ : ByteArray) = key2 at K3 ⊢
  have HOP : Hid (opens key2 nonce wth s → s.data.toList.take 16 = T) := Lib.hid (fun _ => HT.out.symm)
  -- open, compare, tell
  have X1 := HX
  go_wp2_with fail
  by_cases hO : opens key2 nonce wth s
  · have htk : s.data.toList.take 16 = T := HOP.out hO
    have h16 := hO.1
    have h416 := hO.2.1
    have htag : tagB key2 nonce wth (s.extract 16 s.size) = T := by rw [← htk]; exact hO.2.2
    refine (open_any key2 nonce wth s _ K3.out K2.out (show wth.size ≤ 1048576 by omega) (Rounds_ext R.out HX.out) hO).mono ?_
    rintro _ w5 ⟨rfl, h5⟩
    have HX5 := Lib.hid (ext_trans HX.out h5)
    have e1 : ((s.extract 0 16).toList == T) = true := by rw [beq_iff_eq, front_toList]; exact htk
    have HT2 := Lib.hid htag
    have i16 : (16 : Int) ≤ s.size := by omega
    clear hO htk htag h5 HX X1
    go_wp2_with fail
    refine (mark_any 103 103 rfl (some ⟨w5.heap.size, 0, none⟩) [key2, nonce, wth, s.extract 16 s.size] 4 rfl 4 _ (texts4 _ _ _ _ _ _) (by rw [msg4, K3.out, K2.out, ByteArray.size_extract]; have := (show wth.size ≤ 1048576 by omega); omega) (Rounds_alloc (Rounds_ext R.out HX5.out) _)).mono ?_
    rintro _ w6 ⟨rfl, h6⟩
    rw [show markB 103 [key2, nonce, wth, s.extract 16 s.size] = T from HT2.out]
    have HX6 := Lib.hid (ext_trans (ext_alloc _ HX5.out) h6)
    clear h6 HX5
    go_wp2_with fail
    go_ret
    exact ⟨rfl, HX6.out⟩
  · refine (open_spoilt key2 nonce wth s _ K3.out K2.out (show wth.size ≤ 1048576 by omega) (Rounds_ext R.out HX.out) hO).mono ?_
    rintro _ w5 ⟨rfl, h5⟩
    have HX5 := Lib.hid (ext_trans HX.out h5)
    clear hO h5 HX X1
    by_cases h16 : 16 ≤ s.size
    · have i16 : (16 : Int) ≤ s.size := by omega
      cases e1 : ((s.extract 0 16).toList == T) with
      | false =>
        go_wp2_with fail
        refine (tell_any _ (.no 15) _ (ErrT_ext ET.out HX5.out)).mono ?_
        rintro _ w6 ⟨rfl, h6⟩
        go_wp2_with fail
        go_ret
        exact ⟨rfl, ext_trans HX5.out h6⟩
      | true =>
        go_wp2_with fail
        refine (mark_any 103 103 rfl (some ⟨w5.heap.size, 0, none⟩) [key2, nonce, wth, s.extract 16 s.size] 4 rfl 4 _ (texts4 _ _ _ _ _ _) (by rw [msg4, K3.out, K2.out, ByteArray.size_extract]; have := (show wth.size ≤ 1048576 by omega); omega) (Rounds_alloc (Rounds_ext R.out HX5.out) _)).mono ?_
        rintro _ w6 ⟨rfl, h6⟩
        have HX6 := Lib.hid (ext_trans (ext_alloc _ HX5.out) h6)
        clear h6 HX5
        generalize markB 103 [key2, nonce, wth, s.extract 16 s.size] = T2
        cases e2 : (T2 == T) with
        | false =>
          go_wp2_with fail
          refine (tell_any _ (.no 15) _ (ErrT_ext ET.out HX6.out)).mono ?_
          rintro _ w7 ⟨rfl, h7⟩
          go_wp2_with fail
          go_ret
          exact ⟨rfl, ext_trans HX6.out h7⟩
        | true =>
          go_wp2_with fail
          go_ret
          exact ⟨rfl, HX6.out⟩
    · first
        | omega
        | (go_wp2_with fail
           refine (tell_any _ (.no 15) _ (ErrT_ext ET.out HX5.out)).mono ?_
           rintro _ w6 ⟨rfl, h6⟩
           go_wp2_with fail
           go_ret
           exact ⟨rfl, ext_trans HX5.out h6⟩)

set_option maxRecDepth 100000 in
set_option maxHeartbeats 8000000 in
theorem spoilt_2 (key nonce wth text : ByteArray) (what bit : Int) (w : World) (hk : key.size = 32) (hn : nonce.size = 12) (hw : wth.size ≤ 60) (ht : text.size ≤ 400) (hR : Rounds w) (hE : ErrT w) (hp : pickN what 5 = 2) :
    Calls Tryd.prog 8 #[.string key, .string nonce, .string wth, .string text, .int .i64 what, .int .i64 bit] w fun r w' => r = .returned (.bool true) ∧ ∃ x, w' = ext w x := by
  have R := Lib.hid hR
  have ET := Lib.hid hE
  have K1 := Lib.hid hk
  have K2 := Lib.hid hn
  have k40 : key.size ≤ 40 := by omega
  have n40 : nonce.size ≤ 40 := by omega
  have HP := Lib.hid hp
  clear hR hE hk hn hp
  go_enter Tryd.func8, Tryd.ntmps8
  go_wp2_with fail
  refine (sealed_any _ R.out).mono ?_
  rintro _ w1 ⟨rfl, h1⟩
  go_wp2_with fail
  refine (seal_any key nonce wth text _ ht K1.out K2.out (by omega) (Rounds_ext R.out h1)).mono ?_
  rintro _ w2 ⟨rfl, h2⟩
  have hO := opens_seal key nonce wth text ht
  have hSl := sealB_length key nonce wth text
  generalize sealB key nonce wth text = S at hO hSl ⊢
  obtain ⟨s, hs⟩ : ∃ s : ByteArray, s = ⟨S.toArray⟩ := ⟨_, rfl⟩
  rw [← hs] at hO ⊢
  have hss : s.size = 16 + text.size := by rw [hs, ← hSl]; exact List.size_toArray
  clear hs hSl
  have hs16 : 16 ≤ s.size := by omega
  have hsm : s.size ≤ 416 := by omega
  have i16 : (16 : Int) ≤ s.size := by omega
  have HO := Lib.hid hO
  have HX2 := Lib.hid (ext_trans h1 h2)
  clear hO hss h1 h2
  go_wp2_with fail
  refine (mark_any 103 103 rfl (some ⟨w2.heap.size, 0, none⟩) [key, nonce, wth, s.extract 16 s.size] 4 rfl 4 _ (texts4 _ _ _ _ _ _) (by rw [msg4, K1.out, K2.out, ByteArray.size_extract]; omega) (Rounds_alloc (Rounds_ext R.out HX2.out) _)).mono ?_
  rintro _ w3 ⟨rfl, h3⟩
  have HX3 := Lib.hid (ext_trans (ext_alloc _ HX2.out) h3)
  clear h3 HX2
  have HT : Hid (markB 103 [key, nonce, wth, s.extract 16 s.size] = s.data.toList.take 16) := Lib.hid HO.out.2.2
  have HTag : Hid (tagB key nonce wth (s.extract 16 s.size) = markB 103 [key, nonce, wth, s.extract 16 s.size]) := Lib.hid rfl
  generalize markB 103 [key, nonce, wth, s.extract 16 s.size] = T at HT HTag ⊢
  go_wp2_with fail
  refine (pick_any what 5 _ (by decide) (by decide) 5 rfl).mono ?_
  rintro _ w4 ⟨rfl, h4⟩
  rw [HP.out]
  have HX4 := Lib.hid (ext_trans HX3.out h4)
  clear h4 HX3
  go_wp2_with fail
  refine (flip_any nonce bit _ (by omega)).mono ?_
  rintro _ w4b ⟨rfl, h4b⟩
  have HX := Lib.hid (ext_trans HX4.out h4b)
  clear h4b HX4
  have K3 : Hid ((⟨(flipB nonce bit).toArray⟩ : ByteArray).size = 12) := Lib.hid (by rw [flipB_size]; exact K2.out)
  generalize (⟨(flipB nonce bit).toArray⟩ : ByteArray) = nonce2 at K3 ⊢
  have HOP : Hid (opens key nonce2 wth s → s.data.toList.take 16 = T) := Lib.hid (fun _ => HT.out.symm)
  -- open, compare, tell
  have X1 := HX
  go_wp2_with fail
  by_cases hO : opens key nonce2 wth s
  · have htk : s.data.toList.take 16 = T := HOP.out hO
    have h16 := hO.1
    have h416 := hO.2.1
    have htag : tagB key nonce2 wth (s.extract 16 s.size) = T := by rw [← htk]; exact hO.2.2
    refine (open_any key nonce2 wth s _ K1.out K3.out (show wth.size ≤ 1048576 by omega) (Rounds_ext R.out HX.out) hO).mono ?_
    rintro _ w5 ⟨rfl, h5⟩
    have HX5 := Lib.hid (ext_trans HX.out h5)
    have e1 : ((s.extract 0 16).toList == T) = true := by rw [beq_iff_eq, front_toList]; exact htk
    have HT2 := Lib.hid htag
    have i16 : (16 : Int) ≤ s.size := by omega
    clear hO htk htag h5 HX X1
    go_wp2_with fail
    refine (mark_any 103 103 rfl (some ⟨w5.heap.size, 0, none⟩) [key, nonce2, wth, s.extract 16 s.size] 4 rfl 4 _ (texts4 _ _ _ _ _ _) (by rw [msg4, K1.out, K3.out, ByteArray.size_extract]; have := (show wth.size ≤ 1048576 by omega); omega) (Rounds_alloc (Rounds_ext R.out HX5.out) _)).mono ?_
    rintro _ w6 ⟨rfl, h6⟩
    rw [show markB 103 [key, nonce2, wth, s.extract 16 s.size] = T from HT2.out]
    have HX6 := Lib.hid (ext_trans (ext_alloc _ HX5.out) h6)
    clear h6 HX5
    go_wp2_with fail
    go_ret
    exact ⟨rfl, HX6.out⟩
  · refine (open_spoilt key nonce2 wth s _ K1.out K3.out (show wth.size ≤ 1048576 by omega) (Rounds_ext R.out HX.out) hO).mono ?_
    rintro _ w5 ⟨rfl, h5⟩
    have HX5 := Lib.hid (ext_trans HX.out h5)
    clear hO h5 HX X1
    by_cases h16 : 16 ≤ s.size
    · have i16 : (16 : Int) ≤ s.size := by omega
      cases e1 : ((s.extract 0 16).toList == T) with
      | false =>
        go_wp2_with fail
        refine (tell_any _ (.no 15) _ (ErrT_ext ET.out HX5.out)).mono ?_
        rintro _ w6 ⟨rfl, h6⟩
        go_wp2_with fail
        go_ret
        exact ⟨rfl, ext_trans HX5.out h6⟩
      | true =>
        go_wp2_with fail
        refine (mark_any 103 103 rfl (some ⟨w5.heap.size, 0, none⟩) [key, nonce2, wth, s.extract 16 s.size] 4 rfl 4 _ (texts4 _ _ _ _ _ _) (by rw [msg4, K1.out, K3.out, ByteArray.size_extract]; have := (show wth.size ≤ 1048576 by omega); omega) (Rounds_alloc (Rounds_ext R.out HX5.out) _)).mono ?_
        rintro _ w6 ⟨rfl, h6⟩
        have HX6 := Lib.hid (ext_trans (ext_alloc _ HX5.out) h6)
        clear h6 HX5
        generalize markB 103 [key, nonce2, wth, s.extract 16 s.size] = T2
        cases e2 : (T2 == T) with
        | false =>
          go_wp2_with fail
          refine (tell_any _ (.no 15) _ (ErrT_ext ET.out HX6.out)).mono ?_
          rintro _ w7 ⟨rfl, h7⟩
          go_wp2_with fail
          go_ret
          exact ⟨rfl, ext_trans HX6.out h7⟩
        | true =>
          go_wp2_with fail
          go_ret
          exact ⟨rfl, HX6.out⟩
    · first
        | omega
        | (go_wp2_with fail
           refine (tell_any _ (.no 15) _ (ErrT_ext ET.out HX5.out)).mono ?_
           rintro _ w6 ⟨rfl, h6⟩
           go_wp2_with fail
           go_ret
           exact ⟨rfl, ext_trans HX5.out h6⟩)

set_option maxRecDepth 100000 in
set_option maxHeartbeats 8000000 in
theorem spoilt_3 (key nonce wth text : ByteArray) (what bit : Int) (w : World) (hk : key.size = 32) (hn : nonce.size = 12) (hw : wth.size ≤ 60) (ht : text.size ≤ 400) (hR : Rounds w) (hE : ErrT w) (hp : pickN what 5 = 3) :
    Calls Tryd.prog 8 #[.string key, .string nonce, .string wth, .string text, .int .i64 what, .int .i64 bit] w fun r w' => r = .returned (.bool true) ∧ ∃ x, w' = ext w x := by
  have R := Lib.hid hR
  have ET := Lib.hid hE
  have K1 := Lib.hid hk
  have K2 := Lib.hid hn
  have k40 : key.size ≤ 40 := by omega
  have n40 : nonce.size ≤ 40 := by omega
  have HP := Lib.hid hp
  clear hR hE hk hn hp
  go_enter Tryd.func8, Tryd.ntmps8
  go_wp2_with fail
  refine (sealed_any _ R.out).mono ?_
  rintro _ w1 ⟨rfl, h1⟩
  go_wp2_with fail
  refine (seal_any key nonce wth text _ ht K1.out K2.out (by omega) (Rounds_ext R.out h1)).mono ?_
  rintro _ w2 ⟨rfl, h2⟩
  have hO := opens_seal key nonce wth text ht
  have hSl := sealB_length key nonce wth text
  generalize sealB key nonce wth text = S at hO hSl ⊢
  obtain ⟨s, hs⟩ : ∃ s : ByteArray, s = ⟨S.toArray⟩ := ⟨_, rfl⟩
  rw [← hs] at hO ⊢
  have hss : s.size = 16 + text.size := by rw [hs, ← hSl]; exact List.size_toArray
  clear hs hSl
  have hs16 : 16 ≤ s.size := by omega
  have hsm : s.size ≤ 416 := by omega
  have i16 : (16 : Int) ≤ s.size := by omega
  have HO := Lib.hid hO
  have HX2 := Lib.hid (ext_trans h1 h2)
  clear hO hss h1 h2
  go_wp2_with fail
  refine (mark_any 103 103 rfl (some ⟨w2.heap.size, 0, none⟩) [key, nonce, wth, s.extract 16 s.size] 4 rfl 4 _ (texts4 _ _ _ _ _ _) (by rw [msg4, K1.out, K2.out, ByteArray.size_extract]; omega) (Rounds_alloc (Rounds_ext R.out HX2.out) _)).mono ?_
  rintro _ w3 ⟨rfl, h3⟩
  have HX3 := Lib.hid (ext_trans (ext_alloc _ HX2.out) h3)
  clear h3 HX2
  have HT : Hid (markB 103 [key, nonce, wth, s.extract 16 s.size] = s.data.toList.take 16) := Lib.hid HO.out.2.2
  have HTag : Hid (tagB key nonce wth (s.extract 16 s.size) = markB 103 [key, nonce, wth, s.extract 16 s.size]) := Lib.hid rfl
  generalize markB 103 [key, nonce, wth, s.extract 16 s.size] = T at HT HTag ⊢
  go_wp2_with fail
  refine (pick_any what 5 _ (by decide) (by decide) 5 rfl).mono ?_
  rintro _ w4 ⟨rfl, h4⟩
  rw [HP.out]
  have HX4 := Lib.hid (ext_trans HX3.out h4)
  clear h4 HX3
  go_wp2_with fail
  obtain ⟨x0, hx0⟩ : ∃ x0 : ByteArray, x0 = wth ++ ⟨#[120]⟩ := ⟨_, rfl⟩
  have hx1 : x0.size ≤ 61 := by rw [hx0, ByteArray.size_append]; show wth.size + 1 ≤ 61; omega
  rw [← hx0]
  clear hx0
  refine (flip_any x0 bit _ (by omega)).mono ?_
  rintro _ w4b ⟨rfl, h4b⟩
  have HX := Lib.hid (ext_trans HX4.out h4b)
  clear h4b HX4
  have hwl : (⟨(flipB x0 bit).toArray⟩ : ByteArray).size ≤ 61 := by rw [flipB_size]; exact hx1
  generalize (⟨(flipB x0 bit).toArray⟩ : ByteArray) = wth2 at hwl ⊢
  clear hx1
  have HOP : Hid (opens key nonce wth2 s → s.data.toList.take 16 = T) := Lib.hid (fun _ => HT.out.symm)
  -- open, compare, tell
  have X1 := HX
  go_wp2_with fail
  by_cases hO : opens key nonce wth2 s
  · have htk : s.data.toList.take 16 = T := HOP.out hO
    have h16 := hO.1
    have h416 := hO.2.1
    have htag : tagB key nonce wth2 (s.extract 16 s.size) = T := by rw [← htk]; exact hO.2.2
    refine (open_any key nonce wth2 s _ K1.out K2.out (show wth2.size ≤ 1048576 by omega) (Rounds_ext R.out HX.out) hO).mono ?_
    rintro _ w5 ⟨rfl, h5⟩
    have HX5 := Lib.hid (ext_trans HX.out h5)
    have e1 : ((s.extract 0 16).toList == T) = true := by rw [beq_iff_eq, front_toList]; exact htk
    have HT2 := Lib.hid htag
    have i16 : (16 : Int) ≤ s.size := by omega
    clear hO htk htag h5 HX X1
    go_wp2_with fail
    refine (mark_any 103 103 rfl (some ⟨w5.heap.size, 0, none⟩) [key, nonce, wth2, s.extract 16 s.size] 4 rfl 4 _ (texts4 _ _ _ _ _ _) (by rw [msg4, K1.out, K2.out, ByteArray.size_extract]; have := (show wth2.size ≤ 1048576 by omega); omega) (Rounds_alloc (Rounds_ext R.out HX5.out) _)).mono ?_
    rintro _ w6 ⟨rfl, h6⟩
    rw [show markB 103 [key, nonce, wth2, s.extract 16 s.size] = T from HT2.out]
    have HX6 := Lib.hid (ext_trans (ext_alloc _ HX5.out) h6)
    clear h6 HX5
    go_wp2_with fail
    go_ret
    exact ⟨rfl, HX6.out⟩
  · refine (open_spoilt key nonce wth2 s _ K1.out K2.out (show wth2.size ≤ 1048576 by omega) (Rounds_ext R.out HX.out) hO).mono ?_
    rintro _ w5 ⟨rfl, h5⟩
    have HX5 := Lib.hid (ext_trans HX.out h5)
    clear hO h5 HX X1
    by_cases h16 : 16 ≤ s.size
    · have i16 : (16 : Int) ≤ s.size := by omega
      cases e1 : ((s.extract 0 16).toList == T) with
      | false =>
        go_wp2_with fail
        refine (tell_any _ (.no 15) _ (ErrT_ext ET.out HX5.out)).mono ?_
        rintro _ w6 ⟨rfl, h6⟩
        go_wp2_with fail
        go_ret
        exact ⟨rfl, ext_trans HX5.out h6⟩
      | true =>
        go_wp2_with fail
        refine (mark_any 103 103 rfl (some ⟨w5.heap.size, 0, none⟩) [key, nonce, wth2, s.extract 16 s.size] 4 rfl 4 _ (texts4 _ _ _ _ _ _) (by rw [msg4, K1.out, K2.out, ByteArray.size_extract]; have := (show wth2.size ≤ 1048576 by omega); omega) (Rounds_alloc (Rounds_ext R.out HX5.out) _)).mono ?_
        rintro _ w6 ⟨rfl, h6⟩
        have HX6 := Lib.hid (ext_trans (ext_alloc _ HX5.out) h6)
        clear h6 HX5
        generalize markB 103 [key, nonce, wth2, s.extract 16 s.size] = T2
        cases e2 : (T2 == T) with
        | false =>
          go_wp2_with fail
          refine (tell_any _ (.no 15) _ (ErrT_ext ET.out HX6.out)).mono ?_
          rintro _ w7 ⟨rfl, h7⟩
          go_wp2_with fail
          go_ret
          exact ⟨rfl, ext_trans HX6.out h7⟩
        | true =>
          go_wp2_with fail
          go_ret
          exact ⟨rfl, HX6.out⟩
    · first
        | omega
        | (go_wp2_with fail
           refine (tell_any _ (.no 15) _ (ErrT_ext ET.out HX5.out)).mono ?_
           rintro _ w6 ⟨rfl, h6⟩
           go_wp2_with fail
           go_ret
           exact ⟨rfl, ext_trans HX5.out h6⟩)

set_option maxRecDepth 100000 in
set_option maxHeartbeats 8000000 in
theorem spoilt_4 (key nonce wth text : ByteArray) (what bit : Int) (w : World) (hk : key.size = 32) (hn : nonce.size = 12) (hw : wth.size ≤ 60) (ht : text.size ≤ 400) (hR : Rounds w) (hE : ErrT w) (hp : pickN what 5 = 4) :
    Calls Tryd.prog 8 #[.string key, .string nonce, .string wth, .string text, .int .i64 what, .int .i64 bit] w fun r w' => r = .returned (.bool true) ∧ ∃ x, w' = ext w x := by
  have R := Lib.hid hR
  have ET := Lib.hid hE
  have K1 := Lib.hid hk
  have K2 := Lib.hid hn
  have k40 : key.size ≤ 40 := by omega
  have n40 : nonce.size ≤ 40 := by omega
  have HP := Lib.hid hp
  clear hR hE hk hn hp
  go_enter Tryd.func8, Tryd.ntmps8
  go_wp2_with fail
  refine (sealed_any _ R.out).mono ?_
  rintro _ w1 ⟨rfl, h1⟩
  go_wp2_with fail
  refine (seal_any key nonce wth text _ ht K1.out K2.out (by omega) (Rounds_ext R.out h1)).mono ?_
  rintro _ w2 ⟨rfl, h2⟩
  have hO := opens_seal key nonce wth text ht
  have hSl := sealB_length key nonce wth text
  generalize sealB key nonce wth text = S at hO hSl ⊢
  obtain ⟨s, hs⟩ : ∃ s : ByteArray, s = ⟨S.toArray⟩ := ⟨_, rfl⟩
  rw [← hs] at hO ⊢
  have hss : s.size = 16 + text.size := by rw [hs, ← hSl]; exact List.size_toArray
  clear hs hSl
  have hs16 : 16 ≤ s.size := by omega
  have hsm : s.size ≤ 416 := by omega
  have i16 : (16 : Int) ≤ s.size := by omega
  have HO := Lib.hid hO
  have HX2 := Lib.hid (ext_trans h1 h2)
  clear hO hss h1 h2
  go_wp2_with fail
  refine (mark_any 103 103 rfl (some ⟨w2.heap.size, 0, none⟩) [key, nonce, wth, s.extract 16 s.size] 4 rfl 4 _ (texts4 _ _ _ _ _ _) (by rw [msg4, K1.out, K2.out, ByteArray.size_extract]; omega) (Rounds_alloc (Rounds_ext R.out HX2.out) _)).mono ?_
  rintro _ w3 ⟨rfl, h3⟩
  have HX3 := Lib.hid (ext_trans (ext_alloc _ HX2.out) h3)
  clear h3 HX2
  have HT : Hid (markB 103 [key, nonce, wth, s.extract 16 s.size] = s.data.toList.take 16) := Lib.hid HO.out.2.2
  have HTag : Hid (tagB key nonce wth (s.extract 16 s.size) = markB 103 [key, nonce, wth, s.extract 16 s.size]) := Lib.hid rfl
  generalize markB 103 [key, nonce, wth, s.extract 16 s.size] = T at HT HTag ⊢
  go_wp2_with fail
  refine (pick_any what 5 _ (by decide) (by decide) 5 rfl).mono ?_
  rintro _ w4 ⟨rfl, h4⟩
  rw [HP.out]
  have HX4 := Lib.hid (ext_trans HX3.out h4)
  clear h4 HX3
  go_wp2_with fail
  refine (pick_any bit s.size _ (by omega) (by omega) s.size rfl).mono ?_
  rintro _ w4b ⟨rfl, h4b⟩
  have HX := Lib.hid (ext_trans HX4.out h4b)
  clear h4b HX4
  have hc := pickN_lt bit s.size (by omega)
  generalize pickN bit s.size = c at hc ⊢
  have HOP : Hid (opens key nonce wth (s.extract 0 c) → (s.extract 0 c).data.toList.take 16 = T) := Lib.hid (spoilt_cut key nonce wth s c T HT.out)
  have hs2m : (s.extract 0 c).size ≤ 416 := by rw [ByteArray.size_extract]; omega
  go_wp2_with fail
  generalize s.extract 0 c = s2 at HOP hs2m ⊢
  -- open, compare, tell
  have X1 := HX
  go_wp2_with fail
  by_cases hO : opens key nonce wth s2
  · have htk : s2.data.toList.take 16 = T := HOP.out hO
    have h16 := hO.1
    have h416 := hO.2.1
    have htag : tagB key nonce wth (s2.extract 16 s2.size) = T := by rw [← htk]; exact hO.2.2
    refine (open_any key nonce wth s2 _ K1.out K2.out (show wth.size ≤ 1048576 by omega) (Rounds_ext R.out HX.out) hO).mono ?_
    rintro _ w5 ⟨rfl, h5⟩
    have HX5 := Lib.hid (ext_trans HX.out h5)
    have e1 : ((s2.extract 0 16).toList == T) = true := by rw [beq_iff_eq, front_toList]; exact htk
    have HT2 := Lib.hid htag
    have i16 : (16 : Int) ≤ s2.size := by omega
    clear hO htk htag h5 HX X1
    go_wp2_with fail
    refine (mark_any 103 103 rfl (some ⟨w5.heap.size, 0, none⟩) [key, nonce, wth, s2.extract 16 s2.size] 4 rfl 4 _ (texts4 _ _ _ _ _ _) (by rw [msg4, K1.out, K2.out, ByteArray.size_extract]; have := (show wth.size ≤ 1048576 by omega); omega) (Rounds_alloc (Rounds_ext R.out HX5.out) _)).mono ?_
    rintro _ w6 ⟨rfl, h6⟩
    rw [show markB 103 [key, nonce, wth, s2.extract 16 s2.size] = T from HT2.out]
    have HX6 := Lib.hid (ext_trans (ext_alloc _ HX5.out) h6)
    clear h6 HX5
    go_wp2_with fail
    go_ret
    exact ⟨rfl, HX6.out⟩
  · refine (open_spoilt key nonce wth s2 _ K1.out K2.out (show wth.size ≤ 1048576 by omega) (Rounds_ext R.out HX.out) hO).mono ?_
    rintro _ w5 ⟨rfl, h5⟩
    have HX5 := Lib.hid (ext_trans HX.out h5)
    clear hO h5 HX X1
    by_cases h16 : 16 ≤ s2.size
    · have i16 : (16 : Int) ≤ s2.size := by omega
      cases e1 : ((s2.extract 0 16).toList == T) with
      | false =>
        go_wp2_with fail
        refine (tell_any _ (.no 15) _ (ErrT_ext ET.out HX5.out)).mono ?_
        rintro _ w6 ⟨rfl, h6⟩
        go_wp2_with fail
        go_ret
        exact ⟨rfl, ext_trans HX5.out h6⟩
      | true =>
        go_wp2_with fail
        refine (mark_any 103 103 rfl (some ⟨w5.heap.size, 0, none⟩) [key, nonce, wth, s2.extract 16 s2.size] 4 rfl 4 _ (texts4 _ _ _ _ _ _) (by rw [msg4, K1.out, K2.out, ByteArray.size_extract]; have := (show wth.size ≤ 1048576 by omega); omega) (Rounds_alloc (Rounds_ext R.out HX5.out) _)).mono ?_
        rintro _ w6 ⟨rfl, h6⟩
        have HX6 := Lib.hid (ext_trans (ext_alloc _ HX5.out) h6)
        clear h6 HX5
        generalize markB 103 [key, nonce, wth, s2.extract 16 s2.size] = T2
        cases e2 : (T2 == T) with
        | false =>
          go_wp2_with fail
          refine (tell_any _ (.no 15) _ (ErrT_ext ET.out HX6.out)).mono ?_
          rintro _ w7 ⟨rfl, h7⟩
          go_wp2_with fail
          go_ret
          exact ⟨rfl, ext_trans HX6.out h7⟩
        | true =>
          go_wp2_with fail
          go_ret
          exact ⟨rfl, HX6.out⟩
    · first
        | omega
        | (go_wp2_with fail
           refine (tell_any _ (.no 15) _ (ErrT_ext ET.out HX5.out)).mono ?_
           rintro _ w6 ⟨rfl, h6⟩
           go_wp2_with fail
           go_ret
           exact ⟨rfl, ext_trans HX5.out h6⟩)

theorem spoilt_any (key nonce wth text : ByteArray) (what bit : Int) (w : World) (hR : Rounds w) (hE : ErrT w) :
    Calls Tryd.prog 8 #[.string key, .string nonce, .string wth, .string text, .int .i64 what, .int .i64 bit] w fun r w' => r = .returned (.bool true) ∧ ∃ x, w' = ext w x := by
  by_cases hb : key.size ≤ 40 ∧ nonce.size ≤ 40 ∧ wth.size ≤ 60 ∧ text.size ≤ 450
  · obtain ⟨h1, h2, h3, h4⟩ := hb
    by_cases hg : key.size = 32 ∧ nonce.size = 12 ∧ text.size ≤ 400
    · obtain ⟨g1, g2, g3⟩ := hg
      have hp := pickN_lt what 5 (by decide)
      obtain h | h | h | h | h : pickN what 5 = 0 ∨ pickN what 5 = 1 ∨ pickN what 5 = 2 ∨ pickN what 5 = 3 ∨ pickN what 5 = 4 := by omega
      · exact spoilt_0 key nonce wth text what bit w g1 g2 h3 g3 hR hE h
      · exact spoilt_1 key nonce wth text what bit w g1 g2 h3 g3 hR hE h
      · exact spoilt_2 key nonce wth text what bit w g1 g2 h3 g3 hR hE h
      · exact spoilt_3 key nonce wth text what bit w g1 g2 h3 g3 hR hE h
      · exact spoilt_4 key nonce wth text what bit w g1 g2 h3 g3 hR hE h
    · exact spoilt_bad key nonce wth text what bit w h1 h2 h3 h4 hR hg
  · exact spoilt_long key nonce wth text what bit w hb
end Go.Proofs.YtpjmfcncjoeebaaDoor
