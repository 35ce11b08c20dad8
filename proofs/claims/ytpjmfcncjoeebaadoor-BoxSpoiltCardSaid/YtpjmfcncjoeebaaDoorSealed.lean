/- oubliettekeep.sealed: a fact. -/
import Derived.Test.YtpjmfcncjoeebaaDoorProg
import Derived.Test.YtpjmfcncjoeebaaDoorBox
import Derived.Test.YtpjmfcncjoeebaaDoorRepeat
namespace Go.Proofs.YtpjmfcncjoeebaaDoor
open Go.RowKit

theorem xorB_twice (k n s : List UInt8) : xorB k n (xorB k n s) = s := by
  apply List.ext_getElem?
  intro i
  simp only [xorB, List.getElem?_mapIdx]
  cases s[i]? with
  | none => rfl
  | some c => simp [UInt8.xor_assoc]
theorem sealB_front (key nonce wth text : ByteArray) : (sealB key nonce wth text).take 16 = tagB key nonce wth ⟨(xorB key.data.toList nonce.data.toList text.data.toList).toArray⟩ := by
  unfold sealB
  rw [List.take_left' (tagB_length ..)]
theorem sealB_rest (key nonce wth text : ByteArray) : (sealB key nonce wth text).drop 16 = xorB key.data.toList nonce.data.toList text.data.toList := by
  unfold sealB
  rw [List.drop_left' (tagB_length ..)]
/-- What is sealed is opened. -/
theorem opens_seal (key nonce wth text : ByteArray) (h : text.size ≤ 400) : opens key nonce wth ⟨(sealB key nonce wth text).toArray⟩ := by
  have hl : (⟨(sealB key nonce wth text).toArray⟩ : ByteArray).size = 16 + text.size := by
    show (sealB key nonce wth text).toArray.size = _
    rw [List.size_toArray, sealB_length]
  refine ⟨by omega, by omega, ?_⟩
  have e : (⟨(sealB key nonce wth text).toArray⟩ : ByteArray).extract 16 (⟨(sealB key nonce wth text).toArray⟩ : ByteArray).size = ⟨(xorB key.data.toList nonce.data.toList text.data.toList).toArray⟩ := by
    apply ByteArray.ext
    apply Array.toList_inj.1
    rw [rest_toList]
    exact sealB_rest ..
  rw [e]
  exact (sealB_front ..).symm
theorem openB_seal (key nonce wth text : ByteArray) : openB key nonce ⟨(sealB key nonce wth text).toArray⟩ = text.data.toList := by
  unfold openB
  show xorB _ _ ((sealB key nonce wth text).drop 16) = _
  rw [sealB_rest, xorB_twice]

set_option maxRecDepth 100000 in
set_option maxHeartbeats 1000000 in
theorem sealed_any (w : World) (hR : Rounds w) :
    Calls Tryd.prog 28 #[] w fun r w' => r = .returned (.bool true) ∧ ∃ x, w' = ext w x := by
  have R := Lib.hid hR
  clear hR
  go_enter Tryd.func28, Tryd.ntmps28
  go_wp2_with fail
  refine (Tryd.strings_Repeat ⟨#[107]⟩ 32 _ (by decide) (by decide)).mono ?_
  rintro _ w1 ⟨rfl, h1⟩
  go_wp2_with fail
  refine (Tryd.strings_Repeat ⟨#[110]⟩ 12 _ (by decide) (by decide)).mono ?_
  rintro _ w2 ⟨rfl, h2⟩
  have x2 := ext_trans (ext_of h1) (ext_of h2)
  have hk : (⟨(Lib.repeatL (⟨#[107]⟩ : ByteArray).data.toList 32).toArray⟩ : ByteArray).size = 32 := by decide +kernel
  have hn : (⟨(Lib.repeatL (⟨#[110]⟩ : ByteArray).data.toList 12).toArray⟩ : ByteArray).size = 12 := by decide +kernel
  generalize (⟨(Lib.repeatL (⟨#[107]⟩ : ByteArray).data.toList 32).toArray⟩ : ByteArray) = key at hk ⊢
  generalize (⟨(Lib.repeatL (⟨#[110]⟩ : ByteArray).data.toList 12).toArray⟩ : ByteArray) = nonce at hn ⊢
  have K1 := Lib.hid hk
  have K2 := Lib.hid hn
  clear hk hn
  go_wp2_with fail
  refine (seal_any key nonce ⟨#[119, 105, 116, 104]⟩ ⟨#[116, 101, 120, 116]⟩ _ (by decide) K1.out K2.out (by decide) (Rounds_ext R.out x2)).mono ?_
  rintro _ w3 ⟨rfl, hx3⟩
  have hS := sealB_length key nonce ⟨#[119, 105, 116, 104]⟩ ⟨#[116, 101, 120, 116]⟩
  have hO := opens_seal key nonce ⟨#[119, 105, 116, 104]⟩ ⟨#[116, 101, 120, 116]⟩ (by decide)
  have hB := openB_seal key nonce ⟨#[119, 105, 116, 104]⟩ ⟨#[116, 101, 120, 116]⟩
  generalize sealB key nonce ⟨#[119, 105, 116, 104]⟩ ⟨#[116, 101, 120, 116]⟩ = S at hS hO hB ⊢
  have h20 : S.length = 20 := hS
  have HO := Lib.hid hO
  have HB := Lib.hid hB
  clear hS hO hB
  go_wp2_with fail
  refine (open_any key nonce ⟨#[119, 105, 116, 104]⟩ ⟨S.toArray⟩ _ K1.out K2.out (by decide) (Rounds_ext (Rounds_ext R.out x2) hx3) HO.out).mono ?_
  rintro _ w4 ⟨rfl, hx4⟩
  rw [HB.out]
  go_wp2_with fail
  go_ret
  exact ⟨rfl, ext_trans (ext_trans x2 hx3) hx4⟩
end Go.Proofs.YtpjmfcncjoeebaaDoor
