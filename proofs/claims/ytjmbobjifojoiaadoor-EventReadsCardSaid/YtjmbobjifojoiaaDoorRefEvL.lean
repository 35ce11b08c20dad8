/- oublietteref.Parse, plainly: it is what event.Parse reads. -/
import Derived.Test.YtjmbobjifojoiaaDoorRefEvW
namespace Go.Proofs.YtjmbobjifojoiaaDoor
open Go.RowKit

theorem txt_word (ps : List ByteArray) (i : Nat) : txt (wordW ps i) = (ps.map txt ++ [[], [], [], []]).getD i [] := by
  unfold wordW
  rw [List.getD_eq_getElem?_getD, List.getD_eq_getElem?_getD]
  rw [show (ps.map txt ++ [[], [], [], []] : List (List UInt8)) = (ps ++ [(⟨#[]⟩ : ByteArray), ⟨#[]⟩, ⟨#[]⟩, ⟨#[]⟩]).map txt by rw [List.map_append]; rfl]
  rw [List.getElem?_map]
  cases (ps ++ [(⟨#[]⟩ : ByteArray), ⟨#[]⟩, ⟨#[]⟩, ⟨#[]⟩])[i]? <;> rfl
theorem count_none {l : List UInt8} (h : (32 : UInt8) ∉ l) : l.count 32 = 0 := List.count_eq_zero.2 h
theorem word_is {ps : List ByteArray} {i : Nat} {x : ByteArray} (h : (ps.map txt ++ [[], [], [], []]).getD i [] = txt x) : wordW ps i = x := txt_inj ((txt_word ps i).trans h)
theorem str_cut (a b : ByteArray) : (a ++ b).extract a.size (a ++ b).size = b := by
  apply ByteArray.ext
  have h : (a ++ b).size = a.data.size + b.data.size := by rw [ByteArray.size_append]; rfl
  rw [h, ByteArray.data_extract, ByteArray.data_append, Array.extract_append]
  have e1 : a.size = a.data.size := rfl
  rw [e1]
  have e2 : a.data.extract a.data.size (a.data.size + b.data.size) = #[] := by rw [← Array.toList_inj, Array.toList_extract]; simp
  rw [e2]
  simp only [Nat.sub_self, Nat.add_sub_cancel_left, Array.empty_append]
  rw [← Array.toList_inj, Array.toList_extract]
  simp only [List.extract_eq_take_drop, List.drop_zero, Nat.sub_zero]
  exact List.take_of_length_le (by rw [Array.length_toList]; exact Nat.le_refl _)
theorem txt_app (a b : ByteArray) : txt (a ++ b) = txt a ++ txt b := by
  unfold txt; rw [ByteArray.data_append, Array.toList_append]
/-- What is right is read. -/
theorem event_of_print {e : Ev} {s : ByteArray} (h : rightE okR e = true) (hp : printL e = txt s) : eventW s = e := by
  have hk := kind_cases h
  obtain ⟨k, x, t, r, v⟩ := e
  unfold rightE at h
  rw [Bool.and_eq_true] at h
  obtain ⟨hs, h⟩ := h
  have bs := nameB_blank hs
  have hA := allB_is s
  unfold eventW
  dsimp only at *
  rcases hk with rfl | rfl | rfl
  · rw [if_pos rfl] at h
    simp only [Bool.and_eq_true] at h
    obtain ⟨⟨⟨ht, hr⟩, hv⟩, ho⟩ := h
    have bt := nameB_blank ht
    have br := nameB_blank hr
    have hp2 : txt s = wordL 1 ++ 32 :: (txt x ++ 32 :: (txt t ++ 32 :: (txt r ++ 32 :: txt v))) := by
      rw [← hp]; unfold printL; rw [if_pos rfl]; simp
    have hc : (txt s).count 32 = (txt v).count 32 + 1 + 1 + 1 + 1 := by
      rw [hp2]
      simp only [List.count_append, List.count_cons, count_none bs, count_none bt, count_none br, count_none (blank_word 1)]
      simp
    rw [hc, hp2, split_blank _ _ _ _ (blank_word 1), split_blank _ _ _ _ bs, split_blank _ _ _ _ bt, split_blank _ _ _ _ br] at hA
    have w0 : wordW (allB s) 0 = mkT (wordL 1) := word_is (by rw [hA]; rfl)
    have w1 : wordW (allB s) 1 = x := word_is (by rw [hA]; rfl)
    have w2 : wordW (allB s) 2 = t := word_is (by rw [hA]; rfl)
    have w3 : wordW (allB s) 3 = r := word_is (by rw [hA]; rfl)
    rw [eventOf_1 (by rw [w0]; rfl), w1, w2, w3]
    have hsp : s = headW x t r ++ v := by
      apply txt_inj
      rw [hp2]
      unfold headW
      simp only [txt_app]
      show wordL 1 ++ _ = (((((([112, 117, 116, 32] ++ txt x) ++ [32]) ++ txt t) ++ [32]) ++ txt r) ++ [32]) ++ txt v
      simp [wordL]
    have hpre : Lib.hasPrefix (txt s) (txt (headW x t r)) = true := by
      rw [hsp, txt_app]
      exact List.isPrefixOf_iff_prefix.2 (List.prefix_append _ _)
    rw [if_pos hpre]
    have : s.extract (headW x t r).size s.size = v := by
      rw [hsp]; exact str_cut _ _
    rw [this]
  · rw [if_neg (by decide), if_pos rfl] at h
    simp only [Bool.and_eq_true, decide_eq_true_eq] at h
    obtain ⟨⟨ht, hr⟩, hv⟩ := h
    obtain rfl := empty_of_size hv
    have bt := nameB_blank ht
    have br := nameB_blank hr
    have hp2 : txt s = wordL 2 ++ 32 :: (txt x ++ 32 :: (txt t ++ 32 :: txt r)) := by
      rw [← hp]; unfold printL; rw [if_neg (show ¬ ((2 : Int) = 1) by decide), if_pos rfl]; simp
    have hc : (txt s).count 32 = 0 + 1 + 1 + 1 := by
      rw [hp2]
      simp only [List.count_append, List.count_cons, count_none bs, count_none bt, count_none br, count_none (blank_word 2)]
      simp
    rw [hc, hp2, split_blank _ _ _ _ (blank_word 2), split_blank _ _ _ _ bs, split_blank _ _ _ _ bt, split_whole _ _ _ br] at hA
    have w0 : wordW (allB s) 0 = mkT (wordL 2) := word_is (by rw [hA]; rfl)
    have w1 : wordW (allB s) 1 = x := word_is (by rw [hA]; rfl)
    have w2 : wordW (allB s) 2 = t := word_is (by rw [hA]; rfl)
    have w3 : wordW (allB s) 3 = r := word_is (by rw [hA]; rfl)
    rw [eventOf_2 (by rw [w0]; rfl), w1, w2, w3]
    rfl
  · rw [if_neg (by decide), if_neg (by decide), if_pos rfl] at h
    simp only [Bool.and_eq_true, decide_eq_true_eq] at h
    obtain ⟨⟨ht, hr⟩, hv⟩ := h
    obtain rfl := empty_of_size hv
    obtain rfl := empty_of_size ht
    obtain rfl := empty_of_size hr
    have hp2 : txt s = wordL 3 ++ 32 :: txt x := by
      rw [← hp]; unfold printL; rw [if_neg (show ¬ ((3 : Int) = 1) by decide), if_neg (show ¬ ((3 : Int) = 2) by decide)]; simp
    have hc : (txt s).count 32 = 0 + 1 := by
      rw [hp2]
      simp only [List.count_append, List.count_cons, count_none bs, count_none (blank_word 3)]
      simp
    rw [hc, hp2, split_blank _ _ _ _ (blank_word 3), split_whole _ _ _ bs] at hA
    have w0 : wordW (allB s) 0 = mkT (wordL 3) := word_is (by rw [hA]; rfl)
    have w1 : wordW (allB s) 1 = x := word_is (by rw [hA]; rfl)
    rw [eventOf_3 (by rw [w0]; rfl), w1]
    rfl
theorem okR_is : okV = okR := funext okV_is
theorem parse_answ (s : ByteArray) : answW s (eventW s) = .tuple #[.agg (evV (parseE s)), .int .i64 (if parses okV (txt s) then 0 else 3)] := by
  by_cases hp : parses okV (txt s)
  · have hr := hp.2
    have hq := print_read hp
    rw [okR_is] at hr
    have e := event_of_print hr hq
    unfold answW parseE
    rw [e, if_pos ⟨hr, hq⟩, if_pos hp, if_pos hp]
  · unfold answW parseE
    rw [if_neg hp, if_neg hp, if_neg]
    rintro ⟨h1, h2⟩
    apply hp
    rw [← okR_is] at h1
    have := (read_print h1).1
    rwa [h2] at this
/-- What oublietteref.Parse answers. -/
theorem rparse_any (s : ByteArray) (w : World) (hs : s.size ≤ 1048576) (hM : MaxL w) :
    Calls Tryd.prog 49 #[.string s] w fun r w' => r = .returned (.tuple #[.agg (evV (parseE s)), .int .i64 (if parses okV (txt s) then 0 else 3)]) ∧ ∃ x, w' = ext w x := by
  have h := rparse_walk s w hs hM
  rw [parse_answ] at h
  exact h
end Go.Proofs.YtjmbobjifojoiaaDoor
