/- Package box. -/
import Derived.Test.YtafdigdopeahdaaGreatDoorProg
import Derived.Test.YtafdigdopeahdaaGreatDoorG16
import Derived.Test.YtafdigdopeahdaaGreatDoorG13
import Derived.Lib.Strings
namespace Go.Proofs.YtafdigdopeahdaaGreatDoor
open Go.RowKit

/-- What tells that nothing was changed. -/
def tagB (key nonce wth s : ByteArray) : List UInt8 := markB 103 [key, nonce, wth, s]
theorem tagB_length (key nonce wth s : ByteArray) : (tagB key nonce wth s).length = 16 := by unfold tagB markB; rw [List.length_take, sumB_length]; omega
theorem msg4 (k : UInt8) (a b c d : ByteArray) : (markMsg k [a, b, c, d]).length = 33 + a.size + b.size + c.size + d.size := by
  have n8 : ∀ n : Int, (numB n).length = 8 := fun n => numTo_length _ _
  have hl : ∀ s : ByteArray, s.data.toList.length = s.size := fun s => by rw [Array.length_toList]; rfl
  unfold markMsg
  simp only [List.length_cons, List.length_nil, markTo, List.length_append, n8, hl, List.getD_cons_zero, List.getD_cons_succ]
  omega

set_option maxRecDepth 100000 in
set_option maxHeartbeats 1000000 in
theorem tag_any (key nonce wth s : ByteArray) (w : World) (hlen : key.size + nonce.size + wth.size + s.size ≤ 140737488350000) (hR : Rounds w) :
    Calls Tryz.prog 73 #[.string key, .string nonce, .string wth, .string s] w fun r w' => r = .returned (.string ⟨(tagB key nonce wth s).toArray⟩) ∧ ∃ x, w' = ext w x := by
  have R := Lib.hid hR
  clear hR
  go_enter Tryz.func73, Tryz.ntmps73
  go_wp2_with fail
  refine (mark_any 103 103 rfl (some ⟨w.heap.size, 0, none⟩) [key, nonce, wth, s] 4 rfl 4 _ ?_ (by rw [msg4]; omega) (Rounds_alloc R.out _)).mono ?_
  · intro j t hj
    refine ⟨w.heap.size, 0, rfl, by simp, ?_⟩
    rw [Nat.zero_add, World.cell?_alloc_new]
    match j, hj with
    | 0, hj => cases hj; rfl
    | 1, hj => cases hj; rfl
    | 2, hj => cases hj; rfl
    | 3, hj => cases hj; rfl
    | (j + 4), hj => simp at hj
  rintro _ w2 ⟨rfl, hx⟩
  go_wp2_with fail
  go_ret
  exact ⟨rfl, ext_trans (ext_alloc _ (ext_refl w)) hx⟩

/-- What a text is sealed as. -/
def sealB (key nonce wth text : ByteArray) : List UInt8 :=
  tagB key nonce wth ⟨(xorB key.data.toList nonce.data.toList text.data.toList).toArray⟩ ++ xorB key.data.toList nonce.data.toList text.data.toList
theorem size_toL (s : ByteArray) : s.data.toList.length = s.size := by rw [Array.length_toList]; rfl
theorem sealB_length (key nonce wth text : ByteArray) : (sealB key nonce wth text).length = 16 + text.size := by
  unfold sealB; rw [List.length_append, tagB_length, xorB_length, size_toL]

set_option maxHeartbeats 1000000 in
theorem seal_long (key nonce wth text : ByteArray) (w : World) (h : 400 < text.size) :
    Calls Tryz.prog 54 #[.string key, .string nonce, .string wth, .string text] w fun r w' => r = .returned (.tuple #[.string ⟨#[]⟩, errV 4]) ∧ ∃ x, w' = ext w x := by
  go_enter Tryz.func54, Tryz.ntmps54
  go_wp2_with fail
  go_ret2
  exact ⟨rfl, ext_refl w⟩
set_option maxHeartbeats 1000000 in
theorem seal_bad (key nonce wth text : ByteArray) (w : World) (hl : text.size ≤ 400) (h : ¬ (key.size = 32 ∧ nonce.size = 12)) :
    Calls Tryz.prog 54 #[.string key, .string nonce, .string wth, .string text] w fun r w' => r = .returned (.tuple #[.string ⟨#[]⟩, errV 1]) ∧ ∃ x, w' = ext w x := by
  have H := Lib.hid h
  clear h
  go_enter Tryz.func54, Tryz.ntmps54
  go_wp2_with fail
  refine (xor_bad key nonce text _ H.out (by omega)).mono ?_
  rintro _ w2 ⟨rfl, hx⟩
  go_wp2_with fail
  go_ret2
  exact ⟨rfl, hx⟩
set_option maxHeartbeats 1000000 in
theorem seal_any (key nonce wth text : ByteArray) (w : World) (hl : text.size ≤ 400) (hk : key.size = 32) (hn : nonce.size = 12) (hw : wth.size ≤ 1048576) (hR : Rounds w) :
    Calls Tryz.prog 54 #[.string key, .string nonce, .string wth, .string text] w fun r w' => r = .returned (.tuple #[.string ⟨(sealB key nonce wth text).toArray⟩, .nilIface]) ∧ ∃ x, w' = ext w x := by
  have R := Lib.hid hR
  have K1 := Lib.hid hk
  have K2 := Lib.hid hn
  clear hR hk hn
  go_enter Tryz.func54, Tryz.ntmps54
  go_wp2_with fail
  refine (xor_any key nonce text _ K1.out K2.out (by omega)).mono ?_
  rintro _ w2 ⟨rfl, hx⟩
  have hxl : (xorB key.data.toList nonce.data.toList text.data.toList).length = text.size := by rw [xorB_length, size_toL]
  generalize hX : xorB key.data.toList nonce.data.toList text.data.toList = X at hxl ⊢
  have HX := Lib.hid hX
  clear hX
  go_wp2_with fail
  refine (tag_any key nonce wth ⟨X.toArray⟩ w2 (by rw [K1.out, K2.out, show (⟨X.toArray⟩ : ByteArray).size = X.length from List.size_toArray]; omega) (Rounds_ext R.out hx)).mono ?_
  rintro _ w3 ⟨rfl, hx3⟩
  have ht := tagB_length key nonce wth ⟨X.toArray⟩
  generalize hT : tagB key nonce wth ⟨X.toArray⟩ = T at ht ⊢
  have HT := Lib.hid hT
  clear hT
  have hnb : ¬ 9223372036854775807 < T.length + X.length := by omega
  go_wp2_with fail
  go_ret2
  have hse : sealB key nonce wth text = T ++ X := by unfold sealB; rw [HX.out, HT.out]
  exact ⟨by rw [hse]; rfl, ext_trans hx hx3⟩

/-- It was sealed so. -/
def opens (key nonce wth s : ByteArray) : Prop := 16 ≤ s.size ∧ s.size ≤ 416 ∧ tagB key nonce wth (s.extract 16 s.size) = s.data.toList.take 16
def openB (key nonce s : ByteArray) : List UInt8 := xorB key.data.toList nonce.data.toList (s.data.toList.drop 16)

theorem front_toList (s : ByteArray) (n : Nat) : (s.extract 0 n).toList = s.data.toList.take n := by
  rw [Lib.extract_toList, List.drop_zero, Nat.sub_zero]
theorem rest_toList (s : ByteArray) (n : Nat) : (s.extract n s.size).data.toList = s.data.toList.drop n := by
  have h := data_extract s.data.toList n s.size
  rw [str_eta] at h
  rw [h, List.take_of_length_le (by rw [List.length_drop, size_toL]; omega)]
set_option maxHeartbeats 1000000 in
theorem open_bad (key nonce wth s : ByteArray) (w : World) (h : ¬ (key.size = 32 ∧ nonce.size = 12)) :
    Calls Tryz.prog 59 #[.string key, .string nonce, .string wth, .string s] w fun r w' => r = .returned (.tuple #[.string ⟨#[]⟩, errV 1]) ∧ ∃ x, w' = ext w x := by
  have H := Lib.hid h
  clear h
  go_enter Tryz.func59, Tryz.ntmps59
  go_wp2_with fail
  refine (block_bad key nonce 0 _ (fun h => H.out ⟨h.1, h.2.1⟩)).mono ?_
  rintro _ w2 ⟨rfl, hx⟩
  go_wp2_with fail
  go_ret2
  exact ⟨rfl, hx⟩
set_option maxHeartbeats 2000000 in
theorem open_spoilt (key nonce wth s : ByteArray) (w : World) (hk : key.size = 32) (hn : nonce.size = 12) (hw : wth.size ≤ 1048576) (hR : Rounds w) (h : ¬ opens key nonce wth s) :
    Calls Tryz.prog 59 #[.string key, .string nonce, .string wth, .string s] w fun r w' => r = .returned (.tuple #[.string ⟨#[]⟩, errV 15]) ∧ ∃ x, w' = ext w x := by
  have R := Lib.hid hR
  have K1 := Lib.hid hk
  have K2 := Lib.hid hn
  have H := Lib.hid h
  clear hR hk hn h
  go_enter Tryz.func59, Tryz.ntmps59
  go_wp2_with fail
  refine (block_any key nonce 0 _ K1.out K2.out (by omega) 0 rfl).mono ?_
  rintro _ w2 ⟨rfl, hx⟩
  have R2 := Lib.hid (Rounds_ext R.out hx)
  go_wp2_with fail
  by_cases h16 : s.size < 16
  · have d16 : decide ((s.size : Int) < 16) = true := decide_eq_true (by omega)
    refine wp_region_ext (by kernel_rfl) (by kernel_rfl) ?_
    repeat (go_big_quiet_step (fail))
    refine wpQuiet_nil ?_
    rintro _ ⟨x1, rfl⟩
    go_wp2_with fail
    go_ret2
    exact ⟨rfl, ext_trans hx ⟨x1, rfl⟩⟩
  · by_cases h416 : 416 < s.size
    · have d16 : decide ((s.size : Int) < 16) = false := decide_eq_false (by omega)
      have d416 : decide (416 < (s.size : Int)) = true := decide_eq_true (by omega)
      refine wp_region_ext (by kernel_rfl) (by kernel_rfl) ?_
      repeat (go_big_quiet_step (fail))
      refine wpQuiet_nil ?_
      rintro _ ⟨x1, rfl⟩
      go_wp2_with fail
      go_ret2
      exact ⟨rfl, ext_trans hx ⟨x1, rfl⟩⟩
    · have i0 : (16 : Int) ≤ s.size := by omega
      have d16 : decide ((s.size : Int) < 16) = false := decide_eq_false (by omega)
      have d416 : decide (416 < (s.size : Int)) = false := decide_eq_false (by omega)
      refine wp_region_ext (by kernel_rfl) (by kernel_rfl) ?_
      repeat (go_big_quiet_step ((go_at_call 73; refine (tag_any key nonce wth _ _ (by rw [K1.out, K2.out, ByteArray.size_extract]; omega) (Rounds_ext R2.out ⟨_, rfl⟩)).mono ?_; rintro _ _ ⟨rfl, hx⟩; exact ⟨rfl, ext_trans ⟨_, rfl⟩ hx⟩)))
      refine wpQuiet_nil ?_
      rintro _ ⟨x1, rfl⟩
      have hne : (tagB key nonce wth (s.extract 16 s.size) == (s.extract 0 16).toList) = false := by
        rw [beq_eq_false_iff_ne]
        intro e
        exact H.out ⟨by omega, by omega, by rw [e, front_toList]⟩
      have hne : (!(tagB key nonce wth (s.extract 16 s.size) == (s.extract 0 16).toList)) = true := by rw [hne]; rfl
      rw [hne]
      go_wp2_with fail
      go_ret2
      exact ⟨rfl, ext_trans hx ⟨x1, rfl⟩⟩
set_option maxHeartbeats 2000000 in
theorem open_any (key nonce wth s : ByteArray) (w : World) (hk : key.size = 32) (hn : nonce.size = 12) (hw : wth.size ≤ 1048576) (hR : Rounds w) (h : opens key nonce wth s) :
    Calls Tryz.prog 59 #[.string key, .string nonce, .string wth, .string s] w fun r w' => r = .returned (.tuple #[.string ⟨(openB key nonce s).toArray⟩, .nilIface]) ∧ ∃ x, w' = ext w x := by
  have R := Lib.hid hR
  have K1 := Lib.hid hk
  have K2 := Lib.hid hn
  obtain ⟨h16, h416, ht⟩ := h
  have HT := Lib.hid ht
  clear hR hk hn ht
  go_enter Tryz.func59, Tryz.ntmps59
  go_wp2_with fail
  refine (block_any key nonce 0 _ K1.out K2.out (by omega) 0 rfl).mono ?_
  rintro _ w2 ⟨rfl, hx⟩
  have R2 := Lib.hid (Rounds_ext R.out hx)
  go_wp2_with fail
  have i0 : (16 : Int) ≤ s.size := by omega
  have d16 : decide ((s.size : Int) < 16) = false := decide_eq_false (by omega)
  have d416 : decide (416 < (s.size : Int)) = false := decide_eq_false (by omega)
  refine wp_region_ext (by kernel_rfl) (by kernel_rfl) ?_
  repeat (go_big_quiet_step ((go_at_call 73; refine (tag_any key nonce wth _ _ (by rw [K1.out, K2.out, ByteArray.size_extract]; omega) (Rounds_ext R2.out ⟨_, rfl⟩)).mono ?_; rintro _ _ ⟨rfl, hx⟩; exact ⟨rfl, ext_trans ⟨_, rfl⟩ hx⟩)))
  refine wpQuiet_nil ?_
  rintro _ ⟨x1, rfl⟩
  have hne : (tagB key nonce wth (s.extract 16 s.size) == (s.extract 0 16).toList) = true := by
    rw [beq_iff_eq, front_toList]; exact HT.out
  have hne : (!(tagB key nonce wth (s.extract 16 s.size) == (s.extract 0 16).toList)) = false := by rw [hne]; rfl
  rw [hne]
  go_wp2_with fail
  refine (xor_any key nonce _ _ K1.out K2.out (by rw [ByteArray.size_extract]; omega)).mono ?_
  rintro _ w3 ⟨rfl, hx3⟩
  go_wp2_with fail
  go_ret2
  have e : openB key nonce s = xorB key.data.toList nonce.data.toList (List.take (s.size - 16) (List.drop 16 s.data.toList)) := by
    unfold openB; rw [List.take_of_length_le (by rw [List.length_drop, size_toL]; omega)]
  exact ⟨by rw [e]; rfl, ext_trans (ext_trans hx ⟨x1, rfl⟩) hx3⟩
end Go.Proofs.YtafdigdopeahdaaGreatDoor
