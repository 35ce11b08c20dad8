/- oubliettekeep.BoxBack. -/
import Derived.Test.YtpjmfcncjoeebaaDoorProg
import Derived.Test.YtpjmfcncjoeebaaDoorSealed
namespace Go.Proofs.YtpjmfcncjoeebaaDoor
open Go.RowKit

/-- What was opened was sealed just so. -/
theorem seal_openB (key nonce wth s : ByteArray) (h : opens key nonce wth s) : sealB key nonce wth ⟨(openB key nonce s).toArray⟩ = s.data.toList := by
  obtain ⟨h16, h416, ht⟩ := h
  have hx : xorB key.data.toList nonce.data.toList (openB key nonce s) = s.data.toList.drop 16 := by unfold openB; rw [xorB_twice]
  have e : (⟨(s.data.toList.drop 16).toArray⟩ : ByteArray) = s.extract 16 s.size := by
    apply ByteArray.ext
    apply Array.toList_inj.1
    rw [rest_toList]
  unfold sealB
  show tagB key nonce wth ⟨(xorB key.data.toList nonce.data.toList (openB key nonce s)).toArray⟩ ++ xorB key.data.toList nonce.data.toList (openB key nonce s) = _
  rw [hx, e, ht, List.take_append_drop]
theorem openB_length (key nonce s : ByteArray) : (openB key nonce s).length = s.size - 16 := by
  unfold openB; rw [xorB_length, List.length_drop, size_toL]

set_option maxRecDepth 100000 in
set_option maxHeartbeats 2000000 in
theorem back_long (key nonce wth text s : ByteArray) (w : World) (h : ¬ (key.size ≤ 40 ∧ nonce.size ≤ 40 ∧ wth.size ≤ 60 ∧ text.size ≤ 450 ∧ s.size ≤ 450)) :
    Calls Tryd.prog 5 #[.string key, .string nonce, .string wth, .string text, .string s] w fun r w' => r = .returned (.bool true) ∧ ∃ x, w' = ext w x := by
  have H := Lib.hid h
  clear h
  go_enter Tryd.func5, Tryd.ntmps5
  go_wp2_with fail
  all_goals first
    | (exfalso; exact H.out ⟨by omega, by omega, by omega, by omega, by omega⟩)
    | (go_ret; exact ⟨rfl, ext_refl w⟩)
set_option maxRecDepth 100000 in
set_option maxHeartbeats 2000000 in
theorem back_bad (key nonce wth text s : ByteArray) (w : World) (hk : key.size ≤ 40) (hn : nonce.size ≤ 40) (hw : wth.size ≤ 60) (ht : text.size ≤ 450) (hs : s.size ≤ 450) (hR : Rounds w) (h : ¬ (key.size = 32 ∧ nonce.size = 12)) :
    Calls Tryd.prog 5 #[.string key, .string nonce, .string wth, .string text, .string s] w fun r w' => r = .returned (.bool true) ∧ ∃ x, w' = ext w x := by
  have R := Lib.hid hR
  have H := Lib.hid h
  clear hR h
  go_enter Tryd.func5, Tryd.ntmps5
  go_wp2_with fail
  refine (sealed_any _ R.out).mono ?_
  rintro _ w1 ⟨rfl, h1⟩
  go_wp2_with fail
  refine (open_bad key nonce wth s _ H.out).mono ?_
  rintro _ w2 ⟨rfl, h2⟩
  go_wp2_with fail
  by_cases h4 : 400 < text.size
  · refine (seal_long key nonce wth text _ h4).mono ?_
    rintro _ w3 ⟨rfl, h3⟩
    go_wp2_with fail
    go_ret
    exact ⟨rfl, ext_trans (ext_trans h1 h2) h3⟩
  · refine (seal_bad key nonce wth text _ (by omega) H.out).mono ?_
    rintro _ w3 ⟨rfl, h3⟩
    go_wp2_with fail
    have hb : key.size = 32 → (decide ((400 : Int) < text.size) || ((nonce.size : Int) != 12)) = true := by
      intro e
      have : (nonce.size : Int) ≠ 12 := fun e2 => H.out ⟨e, by omega⟩
      simp [this]
    all_goals (go_ret; refine ⟨?_, ext_trans (ext_trans h1 h2) h3⟩)
    all_goals first
      | rfl
      | (show Ending.returned (Value.bool (decide ((400 : Int) < text.size) || ((nonce.size : Int) != 12))) = _; rw [hb (by omega)])
set_option maxRecDepth 100000 in
set_option maxHeartbeats 4000000 in
theorem back_good (key nonce wth text s : ByteArray) (w : World) (hk : key.size = 32) (hn : nonce.size = 12) (hw : wth.size ≤ 60) (ht : text.size ≤ 450) (hs : s.size ≤ 450) (hR : Rounds w) :
    Calls Tryd.prog 5 #[.string key, .string nonce, .string wth, .string text, .string s] w fun r w' => r = .returned (.bool true) ∧ ∃ x, w' = ext w x := by
  have R := Lib.hid hR
  have K1 := Lib.hid hk
  have K2 := Lib.hid hn
  have k40 : key.size ≤ 40 := by omega
  have n40 : nonce.size ≤ 40 := by omega
  clear hR hk hn
  -- the end: seal, open
  go_enter Tryd.func5, Tryd.ntmps5
  go_wp2_with fail
  refine (sealed_any _ R.out).mono ?_
  rintro _ w1 ⟨rfl, h1⟩
  go_wp2_with fail
  by_cases hO : opens key nonce wth s
  · refine (open_any key nonce wth s _ K1.out K2.out (by omega) (Rounds_ext R.out h1) hO).mono ?_
    rintro _ w2 ⟨rfl, h2⟩
    go_wp2_with fail
    refine (seal_any key nonce wth ⟨(openB key nonce s).toArray⟩ _ (by show (openB key nonce s).toArray.size ≤ _; rw [List.size_toArray, openB_length]; have := hO.2.1; omega) K1.out K2.out (by omega) (Rounds_ext (Rounds_ext R.out h1) h2)).mono ?_
    rintro _ w3 ⟨rfl, h3⟩
    rw [seal_openB key nonce wth s hO, str_eta]
    go_wp2_with fail
    by_cases h4 : 400 < text.size
    · refine (seal_long key nonce wth text _ h4).mono ?_
      rintro _ w4 ⟨rfl, h4⟩
      go_wp2_with fail
      all_goals (go_ret; exact ⟨rfl, ext_trans (ext_trans (ext_trans h1 h2) h3) h4⟩)
    · have R3 := Rounds_ext (Rounds_ext (Rounds_ext R.out h1) h2) h3
      refine (seal_any key nonce wth text _ (by omega) K1.out K2.out (by omega) R3).mono ?_
      rintro _ w4 ⟨rfl, h5⟩
      go_wp2_with fail
      refine (open_any key nonce wth ⟨(sealB key nonce wth text).toArray⟩ _ K1.out K2.out (by omega) (Rounds_ext R3 h5) (opens_seal _ _ _ _ (by omega))).mono ?_
      rintro _ w5 ⟨rfl, h6⟩
      rw [openB_seal, str_eta]
      go_wp2_with fail
      go_ret
      exact ⟨rfl, ext_trans (ext_trans (ext_trans (ext_trans h1 h2) h3) h5) h6⟩
  · refine (open_spoilt key nonce wth s _ K1.out K2.out (by omega) (Rounds_ext R.out h1) hO).mono ?_
    rintro _ w2 ⟨rfl, h2⟩
    go_wp2_with fail
    by_cases h4 : 400 < text.size
    · refine (seal_long key nonce wth text _ h4).mono ?_
      rintro _ w4 ⟨rfl, h4⟩
      go_wp2_with fail
      all_goals (go_ret; exact ⟨rfl, ext_trans (ext_trans h1 h2) h4⟩)
    · have R3 := Rounds_ext (Rounds_ext R.out h1) h2
      refine (seal_any key nonce wth text _ (by omega) K1.out K2.out (by omega) R3).mono ?_
      rintro _ w4 ⟨rfl, h5⟩
      go_wp2_with fail
      refine (open_any key nonce wth ⟨(sealB key nonce wth text).toArray⟩ _ K1.out K2.out (by omega) (Rounds_ext R3 h5) (opens_seal _ _ _ _ (by omega))).mono ?_
      rintro _ w5 ⟨rfl, h6⟩
      rw [openB_seal, str_eta]
      go_wp2_with fail
      go_ret
      exact ⟨rfl, ext_trans (ext_trans (ext_trans h1 h2) h5) h6⟩
theorem back_any (key nonce wth text s : ByteArray) (w : World) (hR : Rounds w) :
    Calls Tryd.prog 5 #[.string key, .string nonce, .string wth, .string text, .string s] w fun r w' => r = .returned (.bool true) ∧ ∃ x, w' = ext w x := by
  by_cases hb : key.size ≤ 40 ∧ nonce.size ≤ 40 ∧ wth.size ≤ 60 ∧ text.size ≤ 450 ∧ s.size ≤ 450
  · obtain ⟨h1, h2, h3, h4, h5⟩ := hb
    by_cases hg : key.size = 32 ∧ nonce.size = 12
    · exact back_good key nonce wth text s w hg.1 hg.2 h3 h4 h5 hR
    · exact back_bad key nonce wth text s w h1 h2 h3 h4 h5 hR hg
  · exact back_long key nonce wth text s w hb
end Go.Proofs.YtpjmfcncjoeebaaDoor
