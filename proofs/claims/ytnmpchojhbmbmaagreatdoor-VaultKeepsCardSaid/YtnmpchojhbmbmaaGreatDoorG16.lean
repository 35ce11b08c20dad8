/- oublietteref.Block (the walk). -/
import Derived.Test.YtnmpchojhbmbmaaGreatDoorProg
import Derived.Test.YtnmpchojhbmbmaaGreatDoorG13
import Derived.Test.YtnmpchojhbmbmaaGreatDoorOwn
namespace Go.Proofs.YtnmpchojhbmbmaaGreatDoor
open Go.RowKit

def exp16 : List UInt8 := [101, 120, 112, 97, 110, 100, 32, 51, 50, 45, 98, 121, 116, 101, 32, 107]
def lst16 (A : Nat → BitVec 32) : List Nat := (List.range 16).map fun j => (A j).toNat
theorem lst16_length (A : Nat → BitVec 32) : (lst16 A).length = 16 := by simp [lst16]
theorem start_is (key nonce : List UInt8) (n : Nat) : wordsL (exp16 ++ key) 12 ++ [(BitVec.ofNat 32 n).toNat] ++ wordsL nonce 3 = lst16 (nonced key n nonce 3) := by
  have hA : ∀ j, wordAt (exp16 ++ key) (16 + j) = wordAt key j := fun j => by
    unfold wordAt
    have g : ∀ i, (exp16 ++ key).getD (16 + i) 0 = key.getD i 0 := fun i => by
      simp only [List.getD_eq_getElem?_getD]
      rw [List.getElem?_append_right (by simp [exp16])]
      simp [exp16]
    rw [show 16 + j + 1 = 16 + (j + 1) by omega, show 16 + j + 2 = 16 + (j + 2) by omega, show 16 + j + 3 = 16 + (j + 3) by omega, g, g, g, g]
  have h0 : wordAt (exp16 ++ key) 0 = consts 0 := by show wordAt exp16 0 = _; decide
  have h1 : wordAt (exp16 ++ key) 4 = consts 1 := by show wordAt exp16 4 = _; decide
  have h2 : wordAt (exp16 ++ key) 8 = consts 2 := by show wordAt exp16 8 = _; decide
  have h3 : wordAt (exp16 ++ key) 12 = consts 3 := by show wordAt exp16 12 = _; decide
  show [(wordAt (exp16 ++ key) 0).toNat, (wordAt (exp16 ++ key) 4).toNat, (wordAt (exp16 ++ key) 8).toNat, (wordAt (exp16 ++ key) 12).toNat, (wordAt (exp16 ++ key) (16 + 0)).toNat, (wordAt (exp16 ++ key) (16 + 4)).toNat, (wordAt (exp16 ++ key) (16 + 8)).toNat, (wordAt (exp16 ++ key) (16 + 12)).toNat,
    (wordAt (exp16 ++ key) (16 + 16)).toNat, (wordAt (exp16 ++ key) (16 + 20)).toNat, (wordAt (exp16 ++ key) (16 + 24)).toNat, (wordAt (exp16 ++ key) (16 + 28)).toNat, (BitVec.ofNat 32 n).toNat, (wordAt nonce 0).toNat, (wordAt nonce 4).toNat, (wordAt nonce 8).toNat] = _
  rw [h0, h1, h2, h3]
  simp only [hA]
  rfl
/-- A slice of words as a row. -/
theorem ownsN_rowS {w : World} {base : Nat} {E : TypeId} {v : Value} {A : Nat → BitVec 32} (h : ownsN w base E .u32 v (lst16 A)) :
    ∃ g cap sp, v = .slice (some ⟨g, 0, none⟩) 16 cap ∧ base ≤ g ∧ w.heap[g]? = some (.cells (rowS 16 A sp) E (0, 0)) ∧ cap ≤ maxLen ∧ 16 ≤ cap := by
  obtain ⟨hl, ⟨rfl, h0⟩ | ⟨g, cap, cur, rfl, hb, hh, hn, hc, hsz, hx⟩⟩ := h
  · rw [lst16_length] at h0; cases h0
  · rw [lst16_length] at hx hn ⊢
    refine ⟨g, cap, (cur.toList.drop 16).toArray, rfl, hb, ?_, hc, hn⟩
    have e : cur = rowS 16 A (cur.toList.drop 16).toArray := by
      apply Array.toList_inj.1
      unfold rowS
      rw [Array.toList_append]
      have e2 : (row32 16 A).toList = numsV .u32 (lst16 A) := rfl
      rw [e2, ← hx, Nat.mul_one, List.take_append_drop]
    rw [← e]; exact hh
theorem ownsN_of_rowS {w : World} {base g cap : Nat} {E : TypeId} {A : Nat → BitVec 32} {sp : Array Value} (h : w.heap[g]? = some (.cells (rowS 16 A sp) E (0, 0))) (hb : base ≤ g) (hc : cap ≤ maxLen) (h16 : 16 ≤ cap) (hs : (rowS 16 A sp).size = cap) :
    ownsN w base E .u32 (.slice (some ⟨g, 0, none⟩) 16 cap) (lst16 A) := by
  have hl : (lst16 A).length = 16 := lst16_length A
  refine ⟨by rw [numsV_length, Nat.mul_one], .inr ⟨g, cap, rowS 16 A sp, by rw [hl], hb, h, by rw [hl]; exact h16, hc, by rw [hs, Nat.mul_one], ?_⟩⟩
  have e2 : (row32 16 A).toList = numsV .u32 (lst16 A) := rfl
  unfold rowS
  rw [Array.toList_append, ← e2, hl]
  rw [List.take_left' (by simp [row32, row])]

theorem byte_of_shift (X : BitVec 32) (j : Nat) : val (X >>> (8 * j)) % 256 = ((byteAt X (8 * j)).toNat : Int) := by
  rw [byteAt_val, shr32]
theorem word_of_shift (X : BitVec 32) (j : Nat) : val (X >>> (8 * j)) / 256 = val (X >>> (8 * (j + 1))) := by
  rw [← shr32, ← shr32, Int.ediv_ediv_of_nonneg (Int.le_of_lt (Int.pow_pos (by decide))), show (256 : Int) = 2 ^ 8 from rfl, ← Int.pow_add]; rfl
theorem le4_take (X : BitVec 32) (j : Nat) (h : j < 4) (L : List UInt8) : L ++ (le4 X).take (j + 1) = L ++ (le4 X).take j ++ [byteAt X (8 * j)] := by
  rw [List.append_assoc]
  match j, h with
  | 0, _ => rfl
  | 1, _ => rfl
  | 2, _ => rfl
  | 3, _ => rfl
theorem string_of_byte (w : World) (b : UInt8) : (convert 92 9 (.slice (some ⟨w.heap.size, 0, none⟩) 1 1)).run Tryz.prog (w.alloc (.cells #[.int .u8 (b.toNat : Int)] 5)) = .ok (.string ⟨#[b]⟩) (w.alloc (.cells #[.int .u8 (b.toNat : Int)] 5)) :=
  string_of_own (ownsC_row (base := w.heap.size) (w := w.alloc (.cells (rowB [b] #[]) 5)) (g := w.heap.size) (cap := 1) (l := [b]) (sp := #[]) (t := 5) (fz := (0, 0)) (heap_alloc_at _ _) (Nat.le_refl _) (by simp [rowB, B8]) (by unfold maxLen; omega) (Or.inr rfl))
/-- A round of the reference's: columns, diagonals, in turn. -/
def half (k : Nat) (A : Nat → BitVec 32) (i : Nat) : Nat → BitVec 32 := if k % 2 = 1 then diags A i else cols A i
def halves (A : Nat → BitVec 32) : Nat → (Nat → BitVec 32)
  | 0 => A
  | k + 1 => half k (halves A k) 4
theorem halves_rounds (A : Nat → BitVec 32) (k : Nat) : halves A (2 * k) = rounds A k := by
  induction k with
  | zero => rfl
  | succ k ih =>
    show half (2 * k + 1) (half (2 * k) (halves A (2 * k)) 4) 4 = _
    rw [ih]
    unfold half
    rw [if_pos (by omega), if_neg (by omega)]
    rfl

end Go.Proofs.YtnmpchojhbmbmaaGreatDoor
