/- Names, plain: small letters and digits, one to ten, a letter first. No program. -/
import Derived.Test.YtcbcknfhblamfaaGreatDoorWords
import Derived.Lib.SlTrimSet
import Derived.Lib.Bytealg
import Derived.Lib.IndexLaws
namespace Go.Proofs.YtcbcknfhblamfaaGreatDoor

def letterB (c : UInt8) : Bool := decide (97 ≤ c.toNat ∧ c.toNat ≤ 122)
def digitB (c : UInt8) : Bool := decide (48 ≤ c.toNat ∧ c.toNat ≤ 57)
/-- A name. -/
def nameB (l : List UInt8) : Bool := !l.isEmpty && decide (l.length ≤ 10) && letterB (l.headD 0) && l.all (fun c => letterB c || digitB c)
def lettersL : List UInt8 := [97, 98, 99, 100, 101, 102, 103, 104, 105, 106, 107, 108, 109, 110, 111, 112, 113, 114, 115, 116, 117, 118, 119, 120, 121, 122]
def digitsL : List UInt8 := [48, 49, 50, 51, 52, 53, 54, 55, 56, 57]
theorem letters_all : (List.range 256).all (fun n => decide (0 ≤ Lib.indexByte lettersL (UInt8.ofNat n)) == letterB (UInt8.ofNat n)) = true := by decide +kernel
theorem cut_all : (List.range 256).all (fun n => (lettersL ++ digitsL).contains (UInt8.ofNat n) == (letterB (UInt8.ofNat n) || digitB (UInt8.ofNat n))) = true := by decide +kernel
theorem letter_is (c : UInt8) : decide (0 ≤ Lib.indexByte lettersL c) = letterB c := by
  have h := List.all_eq_true.1 letters_all c.toNat (List.mem_range.2 c.toNat_lt)
  rw [UInt8.ofNat_toNat] at h
  exact eq_of_beq h
theorem cut_is (c : UInt8) : (lettersL ++ digitsL).contains c = (letterB c || digitB c) := by
  have h := List.all_eq_true.1 cut_all c.toNat (List.mem_range.2 c.toNat_lt)
  rw [UInt8.ofNat_toNat] at h
  exact eq_of_beq h
theorem dropWhile_nil {α : Type} (p : α → Bool) : ∀ l : List α, l.dropWhile p = [] ↔ ∀ x ∈ l, p x = true
  | [] => by simp
  | a :: l => by
    rw [List.dropWhile_cons]
    cases h : p a with
    | false => simp [h]
    | true => simp only [if_true]; rw [dropWhile_nil p l]; simp [h]
theorem trimS_nil_iff (l cs : List UInt8) : Lib.trimS l cs = [] ↔ ∀ x ∈ l, cs.contains x = true := by
  unfold Lib.trimS Lib.trimLeftS
  rw [dropWhile_nil]
  unfold Lib.trimRightS
  constructor
  · intro h x hx
    have hx' : x ∈ l.reverse := List.mem_reverse.2 hx
    rw [← List.takeWhile_append_dropWhile (p := (cs.contains ·)) (l := l.reverse), List.mem_append] at hx'
    rcases hx' with h1 | h1
    · exact (List.all_eq_true.1 List.all_takeWhile) x h1
    · exact h x (List.mem_reverse.2 h1)
  · intro h x hx
    exact h x (List.mem_reverse.1 ((List.dropWhile_suffix _).subset (List.mem_reverse.1 hx)))
theorem trim_is (l : List UInt8) : decide (Lib.trimS l (lettersL ++ digitsL) = []) = l.all (fun c => letterB c || digitB c) := by
  rw [Bool.eq_iff_iff, decide_eq_true_iff, trimS_nil_iff, List.all_eq_true]
  simp only [cut_is]
theorem nameB_size {s : ByteArray} (h : nameB s.data.toList = true) : 1 ≤ s.size ∧ s.size ≤ 10 := by
  unfold nameB at h
  simp only [Bool.and_eq_true, decide_eq_true_eq, Bool.not_eq_true', List.isEmpty_eq_false_iff] at h
  have e : s.data.toList.length = s.size := by rw [Array.length_toList]; rfl
  obtain ⟨⟨⟨h1, h2⟩, _⟩, _⟩ := h
  have := List.length_pos_iff.2 h1
  omega
/-- A name has no blank. -/
theorem nameB_blank {l : List UInt8} (h : nameB l = true) : (32 : UInt8) ∉ l := by
  intro hm
  unfold nameB at h
  simp only [Bool.and_eq_true, List.all_eq_true] at h
  have := h.2 32 hm
  revert this; decide
end Go.Proofs.YtcbcknfhblamfaaGreatDoor
