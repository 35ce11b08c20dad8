/- Which texts are records: plain lemmas. No walk. -/
import Derived.Test.YtjjadgcpmfmlfaaDoorOne
namespace Go.Proofs.YtjjadgcpmfmlfaaDoor

def parseOK (s : ByteArray) : Bool := okOne ⟨bs s, false⟩ && (oneL ⟨bs s, false⟩).2.2.s.isEmpty
def parseR (s : ByteArray) : Rec := (oneL ⟨bs s, false⟩).2.1
theorem okOne_iff (st : St) : okOne st = true ↔ (oneL st).2.2.bad = false ∧ fitB (oneL st).2.1 = true ∧ mkB (oneL st).2.1 = (oneL st).1 := by
  unfold okOne
  rw [Bool.and_eq_true, Bool.and_eq_true, ByteArray.toList_eq, ByteArray.toList_eq, beq_iff_eq]
  simp only [mkS, Bool.not_eq_true']
  exact and_assoc
theorem parse_good {s : ByteArray} (h : parseOK s = true) : bs s = writeL mkB (parseR s) ∧ fitB (parseR s) = true := by
  unfold parseOK at h
  rw [Bool.and_eq_true, okOne_iff] at h
  obtain ⟨⟨h1, h2, h3⟩, h4⟩ := h
  have := (oneL_good mkB h1 h3).2
  have he : (oneL ⟨bs s, false⟩).2.2.s = [] := List.isEmpty_iff.1 h4
  dsimp only at this
  rw [he, List.append_nil] at this
  exact ⟨this, h2⟩
theorem parse_more {r : Rec} (h : fitB r = true) (more : List UInt8) : parseOK (mkS (writeL mkB r ++ more)) = more.isEmpty ∧ parseR (mkS (writeL mkB r ++ more)) = r := by
  unfold parseOK parseR
  have hk : okOne ⟨writeL mkB r ++ more, false⟩ = true := by rw [okOne_iff, oneL_write mkB mkB_length (fits_of h)]; exact ⟨rfl, h, rfl⟩
  rw [bs_mkS, hk, oneL_write mkB mkB_length (fits_of h)]
  exact ⟨rfl, rfl⟩
theorem parse_write {r : Rec} (h : fitB r = true) : parseOK (mkS (writeL mkB r)) = true ∧ parseR (mkS (writeL mkB r)) = r := by
  have := parse_more h []
  rwa [List.append_nil] at this
theorem parse_cut {r : Rec} (h : fitB r = true) (k : Nat) (hk : k < (writeL mkB r).length) : parseOK (mkS ((writeL mkB r).take k)) = false := by
  rw [← Bool.not_eq_true]
  intro hp
  obtain ⟨e, f⟩ := parse_good hp
  rw [bs_mkS] at e
  have h1 := oneL_write mkB mkB_length (fits_of f) ((writeL mkB r).drop k) false
  rw [← e, List.take_append_drop] at h1
  have h2 := oneL_write mkB mkB_length (fits_of h) [] false
  rw [List.append_nil, h1] at h2
  have : (writeL mkB r).drop k = [] := congrArg (fun t => t.2.2.s) h2
  rw [List.drop_eq_nil_iff] at this
  omega
end Go.Proofs.YtjjadgcpmfmlfaaDoor
