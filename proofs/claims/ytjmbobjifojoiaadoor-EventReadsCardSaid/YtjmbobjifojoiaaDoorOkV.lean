/- A value's runes, its bytes: one condition. -/
import Derived.Test.YtjmbobjifojoiaaDoorRefEvR
namespace Go.Proofs.YtjmbobjifojoiaaDoor

theorem decode_low (s : ByteArray) (i : Nat) (h : (s.get! i).toNat < 128) : Utf8.decode s i = ((s.get! i).toNat, 1) := by
  unfold Utf8.decode
  simp only [Nat.add_zero]
  rw [if_pos h]
set_option maxRecDepth 100000 in
theorem decode_high (s : ByteArray) (i : Nat) (h : ¬ (s.get! i).toNat < 128) : 128 ≤ (Utf8.decode s i).1 := by
  unfold Utf8.decode
  simp only [Nat.add_zero]
  rw [if_neg h]
  repeat' split
  all_goals first
    | (simp only [Utf8.runeError]; omega)
    | (rename_i hc; simp only [Bool.and_eq_true, decide_eq_true_eq, ge_iff_le] at hc; simp only; omega)
theorem get_at (s : ByteArray) (i : Nat) (h : i < s.data.toList.length) : s.get! i = s.data.toList[i] := by
  have h2 : i < s.data.size := by simpa using h
  show s.data[i]! = _
  rw [getElem!_pos s.data i h2]
  simp
theorem idx_none (s : ByteArray) : ∀ (f pos : Nat), s.size - pos ≤ f → (Lib.idxFuncFrom badRune true s f pos = -1 ↔ ∀ i, pos ≤ i → i < s.size → okC (s.get! i) = true)
  | 0, pos, hf => by
    simp only [Lib.idxFuncFrom, true_iff]
    intro i h1 h2; omega
  | f + 1, pos, hf => by
    unfold Lib.idxFuncFrom
    by_cases hp : pos < s.size
    · rw [if_pos hp]
      by_cases hl : (s.get! pos).toNat < 128
      · rw [decode_low s pos hl]
        dsimp only
        by_cases hb : okC (s.get! pos) = true
        · have hnb : badRune (s.get! pos).toNat = false := by
            unfold okC at hb; unfold badRune
            rw [decide_eq_true_eq] at hb
            rw [Bool.or_eq_false_iff, decide_eq_false_iff_not, decide_eq_false_iff_not]; omega
          rw [hnb, if_neg (by decide), idx_none s f (pos + 1) (by omega)]
          constructor
          · intro h i h1 h2
            by_cases e : i = pos
            · rw [e]; exact hb
            · exact h i (by omega) h2
          · intro h i h1 h2; exact h i (by omega) h2
        · have hnb : badRune (s.get! pos).toNat = true := by
            unfold okC at hb; unfold badRune
            rw [decide_eq_true_eq] at hb
            rw [Bool.or_eq_true, decide_eq_true_eq, decide_eq_true_eq]; omega
          rw [hnb, if_pos rfl]
          constructor
          · intro h; omega
          · intro h; exact absurd (h pos (Nat.le_refl _) hp) hb
      · have hd := decode_high s pos hl
        have hnb : badRune (Utf8.decode s pos).1 = true := by
          unfold badRune
          rw [Bool.or_eq_true, decide_eq_true_eq, decide_eq_true_eq]; omega
        rw [hnb, if_pos rfl]
        constructor
        · intro h; omega
        · intro h
          have := h pos (Nat.le_refl _) hp
          unfold okC at this
          rw [decide_eq_true_eq] at this; omega
    · rw [if_neg hp]
      simp only [true_iff]
      intro i h1 h2; omega
theorem okV_is (l : List UInt8) : okV l = okR l := by
  have hs : (mkT l).size = l.length := by show l.toArray.size = _; rw [List.size_toArray]
  have h := idx_none (mkT l) (mkT l).size 0 (by omega)
  have hr := Lib.idxFunc_range badRune true (mkT l)
  unfold Lib.idxFunc at hr
  rw [Bool.eq_iff_iff]
  unfold okV okR Lib.idxFunc
  rw [Bool.not_eq_true', decide_eq_false_iff_not, List.all_eq_true]
  constructor
  · intro hn x hx
    obtain ⟨i, hi, rfl⟩ := List.getElem_of_mem hx
    have := h.1 (by omega) i (Nat.zero_le _) (by omega)
    rw [get_at (mkT l) i hi] at this
    exact this
  · intro ha
    have := h.2 (fun i _ hi => by rw [get_at (mkT l) i (show i < l.length by omega)]; exact ha _ (List.getElem_mem _))
    omega
theorem rightE_is (e : Ev) : rightE okV e = rightE okR e := by unfold rightE; rw [okV_is]
end Go.Proofs.YtjmbobjifojoiaaDoor
