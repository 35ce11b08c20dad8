/- oubliettelaw.longEvent (the walk). · Byte slices by their cells alone: '[]byte(s)' and what is appended to it; a part of one as a string. · oublietteref.Block (the walk). · oublietteref.Xor (the walk). -/
import Derived.Test.YtcbcknfhblamfaaGreatDoorProg
import Derived.Test.YtcbcknfhblamfaaGreatDoorG22
import Derived.Test.YtcbcknfhblamfaaGreatDoorEvRight
import Derived.Test.YtcbcknfhblamfaaGreatDoorG11
import Derived.Laws.IdiomCopy
import Derived.Test.YtcbcknfhblamfaaGreatDoorG12
namespace Go.Proofs.YtcbcknfhblamfaaGreatDoor
open Go.RowKit

set_option maxRecDepth 100000 in
set_option maxHeartbeats 4000000 in
theorem longe_any (e : Ev) (w : World) :
    Calls Tryz.prog 5 #[.agg (evV e)] w fun r w' => r = .returned (.bool (decide ((60 : Int) < e.subject.size) || decide ((60 : Int) < e.table.size) || decide ((60 : Int) < e.row.size) || decide ((60 : Int) < e.value.size))) ∧ ∃ x, w' = ext w x := by
  obtain ⟨k, u, t, r, v⟩ := e
  have N0 := fun w => long_any u w
  have N1 := fun w => long_any t w
  have N2 := fun w => long_any r w
  have N3 := fun w => long_any v w
  dsimp only
  generalize decide ((60 : Int) < u.size) = d0 at N0 ⊢
  generalize decide ((60 : Int) < t.size) = d1 at N1 ⊢
  generalize decide ((60 : Int) < r.size) = d2 at N2 ⊢
  generalize decide ((60 : Int) < v.size) = d3 at N3 ⊢
  unfold evV
  go_enter Tryz.func5, Tryz.ntmps5
  go_wp2_with fail
  refine (N0 _).mono ?_
  rintro _ w1 ⟨rfl, rfl⟩
  cases d0 with
  | true =>
    go_wp2_with fail
    go_ret
    exact ⟨rfl, ext_alloc _ (ext_refl w)⟩
  | false =>
    go_wp2_with fail
    refine (N1 _).mono ?_
    rintro _ w1 ⟨rfl, rfl⟩
    cases d1 with
    | true =>
      go_wp2_with fail
      go_ret
      exact ⟨rfl, ext_alloc _ (ext_refl w)⟩
    | false =>
      go_wp2_with fail
      refine (N2 _).mono ?_
      rintro _ w1 ⟨rfl, rfl⟩
      cases d2 with
      | true =>
        go_wp2_with fail
        go_ret
        exact ⟨rfl, ext_alloc _ (ext_refl w)⟩
      | false =>
        go_wp2_with fail
        refine (N3 _).mono ?_
        rintro _ w1 ⟨rfl, rfl⟩
        go_wp2_with fail
        go_ret
        exact ⟨rfl, ext_alloc _ (ext_refl w)⟩
end Go.Proofs.YtcbcknfhblamfaaGreatDoor
namespace Go.Proofs.YtcbcknfhblamfaaGreatDoor
open Go.RowKit

/-- The slice 'v' has a block of its own, from 'base' on, that may be written as far as it has room, and holds the bytes 'l'. -/
def ownsC (w : World) (base : Nat) (v : Value) (l : List UInt8) : Prop :=
  (v = .slice none 0 0 ∧ l = []) ∨
  ∃ g cap, v = .slice (some ⟨g, 0, none⟩) l.length cap ∧ base ≤ g ∧ g < w.heap.size ∧ l.length ≤ cap ∧ cap ≤ maxLen ∧
    (∀ j, j < cap → (w.cell? ⟨g, j, none⟩).isSome = true) ∧ (∀ j, j < cap → w.frozen? ⟨g, j, none⟩ = false) ∧ (∀ j u, (B8 l)[j]? = some u → w.cell? ⟨g, j, none⟩ = some u)
theorem ownsC_nil (w : World) (base : Nat) : ownsC w base (.slice none 0 0) [] := .inl ⟨rfl, rfl⟩
theorem add_flat (g j : Nat) : (⟨g, 0, none⟩ : Addr).add j = ⟨g, j, none⟩ := by unfold Addr.add; split <;> simp_all
theorem add_flat' (g k j : Nat) : (⟨g, k, none⟩ : Addr).add j = ⟨g, k + j, none⟩ := by unfold Addr.add; split <;> simp_all
/-- What lies in other blocks may change. -/
theorem ownsC_kept {w w' : World} {base : Nat} {v : Value} {l : List UInt8} {r : Option Nat} (h : ownsC w base v l) (hg : w.grownBy w' r) (hr : ∀ k, r = some k → v.ownBlock ≠ some k) : ownsC w' base v l := by
  rcases h with h | ⟨g, cap, rfl, hb, hlt, hc, hm, h1, h2, h3⟩
  · exact .inl h
  · have e : w'.heap[g]? = w.heap[g]? := hg.block g hlt (fun e => hr g e.symm rfl)
    refine .inr ⟨g, cap, rfl, hb, Nat.lt_of_lt_of_le hlt hg.size, hc, hm, fun j hj => ?_, fun j hj => ?_, fun j u hu => ?_⟩
    · rw [cell_in, e, ← cell_in]; exact h1 j hj
    · rw [frozen_in, e, ← frozen_in]; exact h2 j hj
    · rw [cell_in, e, ← cell_in]; exact h3 j u hu
theorem ownsC_base {w : World} {base : Nat} {v : Value} {l : List UInt8} (h : ownsC w base v l) : ∀ g, v.ownBlock = some g → base ≤ g := by
  rcases h with ⟨rfl, _⟩ | ⟨g, cap, rfl, hb, _⟩
  · intro g hg; simp [Value.ownBlock] at hg
  · intro g' hg; simp only [Value.ownBlock, Option.some.injEq] at hg; omega
theorem ownsC_weak {w : World} {base b' : Nat} {v : Value} {l : List UInt8} (h : ownsC w base v l) (hb' : b' ≤ base) : ownsC w b' v l := by
  rcases h with h | ⟨g, cap, rfl, hb, h⟩
  · exact .inl h
  · exact .inr ⟨g, cap, rfl, by omega, h⟩
/-- A row that was just laid. -/
theorem ownsC_row {w : World} {base g cap : Nat} {l : List UInt8} {sp : Array Value} {t : TypeId} {fz : Nat × Nat} (h : w.heap[g]? = some (.cells (rowB l sp) t fz)) (hb : base ≤ g) (hcap : (rowB l sp).size = cap) (hm : cap ≤ maxLen) (hf : cap ≤ fz.1 ∨ fz.2 = 0) :
    ownsC w base (.slice (some ⟨g, 0, none⟩) l.length cap) l := by
  have hlc : l.length ≤ cap := by rw [← hcap, rowB_size]; omega
  refine .inr ⟨g, cap, rfl, hb, lt_of_heap h, hlc, hm, fun j hj => ?_, fun j hj => ?_, fun j u hu => ?_⟩
  · rw [cell_in, h]; simp [cellIn, Array.getElem?_eq_getElem (show j < (rowB l sp).size by omega)]
  · rw [frozen_in, h]; simp [frozenIn]; omega
  · rw [cell_in, h]
    obtain ⟨b, hb1, rfl⟩ := B8_get hu
    obtain ⟨hj, rfl⟩ := List.getElem?_eq_some_iff.1 hb1
    simp [cellIn, rowB_get hj]
section
variable {ops : Array Oper} {rest : List Oper} {o : Oper} {a : Act} {w : World} {Q : Exit → Act → World → Prop}
theorem setCells_size (g : Nat) : ∀ (vs : List Value) (o : Nat) (w : World), (w.setCells g o vs).heap.size = w.heap.size
  | [], _, _ => rfl
  | v :: r, o, w => by rw [World.setCells, setCells_size g r]; simp
theorem grown_setCells (g : Nat) : ∀ (vs : List Value) (o : Nat) (w : World), w.grownBy (w.setCells g o vs) (some g)
  | [], _, w => grown_refl w _
  | v :: r, o, w => (grown_setCell w g o v).trans (grown_setCells g r (o + 1) _)
end
end Go.Proofs.YtcbcknfhblamfaaGreatDoor
namespace Go.Proofs.YtcbcknfhblamfaaGreatDoor
open Go.RowKit

def exp16 : List UInt8 := [101, 120, 112, 97, 110, 100, 32, 51, 50, 45, 98, 121, 116, 101, 32, 107]
def lst16 (A : Nat → BitVec 32) : List Nat := (List.range 16).map fun j => (A j).toNat
theorem lst16_length (A : Nat → BitVec 32) : (lst16 A).length = 16 := by simp [lst16]
theorem start_is (key nonce : List UInt8) (n : Nat) : wordsL (exp16 ++ key) 12 ++ [(BitVec.ofNat 32 n).toNat] ++ wordsL nonce 3 = lst16 (nonced key n nonce 3) := by
  have hA : ∀ j, wordAt (exp16 ++ key) (16 + j) = wordAt key j := fun j => by
    unfold wordAt
    have g : ∀ i, (exp16 ++ key).getD (16 + i) 0 = key.getD i 0 := fun i => by
      simp only [List.getD_eq_getElem?_getD]
      rw [List.getElem?_append_right (by simp [exp16])]
      simp [exp16]
    rw [show 16 + j + 1 = 16 + (j + 1) by omega, show 16 + j + 2 = 16 + (j + 2) by omega, show 16 + j + 3 = 16 + (j + 3) by omega, g, g, g, g]
  have h0 : wordAt (exp16 ++ key) 0 = consts 0 := by show wordAt exp16 0 = _; decide
  have h1 : wordAt (exp16 ++ key) 4 = consts 1 := by show wordAt exp16 4 = _; decide
  have h2 : wordAt (exp16 ++ key) 8 = consts 2 := by show wordAt exp16 8 = _; decide
  have h3 : wordAt (exp16 ++ key) 12 = consts 3 := by show wordAt exp16 12 = _; decide
  show [(wordAt (exp16 ++ key) 0).toNat, (wordAt (exp16 ++ key) 4).toNat, (wordAt (exp16 ++ key) 8).toNat, (wordAt (exp16 ++ key) 12).toNat, (wordAt (exp16 ++ key) (16 + 0)).toNat, (wordAt (exp16 ++ key) (16 + 4)).toNat, (wordAt (exp16 ++ key) (16 + 8)).toNat, (wordAt (exp16 ++ key) (16 + 12)).toNat,
    (wordAt (exp16 ++ key) (16 + 16)).toNat, (wordAt (exp16 ++ key) (16 + 20)).toNat, (wordAt (exp16 ++ key) (16 + 24)).toNat, (wordAt (exp16 ++ key) (16 + 28)).toNat, (BitVec.ofNat 32 n).toNat, (wordAt nonce 0).toNat, (wordAt nonce 4).toNat, (wordAt nonce 8).toNat] = _
  rw [h0, h1, h2, h3]
  simp only [hA]
  rfl
/-- A slice of words as a row. -/
theorem ownsN_rowS {w : World} {base : Nat} {E : TypeId} {v : Value} {A : Nat → BitVec 32} (h : ownsN w base E .u32 v (lst16 A)) :
    ∃ g cap sp, v = .slice (some ⟨g, 0, none⟩) 16 cap ∧ base ≤ g ∧ w.heap[g]? = some (.cells (rowS 16 A sp) E (0, 0)) ∧ cap ≤ maxLen ∧ 16 ≤ cap := by
  obtain ⟨hl, ⟨rfl, h0⟩ | ⟨g, cap, cur, rfl, hb, hh, hn, hc, hsz, hx⟩⟩ := h
  · rw [lst16_length] at h0; cases h0
  · rw [lst16_length] at hx hn ⊢
    refine ⟨g, cap, (cur.toList.drop 16).toArray, rfl, hb, ?_, hc, hn⟩
    have e : cur = rowS 16 A (cur.toList.drop 16).toArray := by
      apply Array.toList_inj.1
      unfold rowS
      rw [Array.toList_append]
      have e2 : (row32 16 A).toList = numsV .u32 (lst16 A) := rfl
      rw [e2, ← hx, Nat.mul_one, List.take_append_drop]
    rw [← e]; exact hh
theorem ownsN_of_rowS {w : World} {base g cap : Nat} {E : TypeId} {A : Nat → BitVec 32} {sp : Array Value} (h : w.heap[g]? = some (.cells (rowS 16 A sp) E (0, 0))) (hb : base ≤ g) (hc : cap ≤ maxLen) (h16 : 16 ≤ cap) (hs : (rowS 16 A sp).size = cap) :
    ownsN w base E .u32 (.slice (some ⟨g, 0, none⟩) 16 cap) (lst16 A) := by
  have hl : (lst16 A).length = 16 := lst16_length A
  refine ⟨by rw [numsV_length, Nat.mul_one], .inr ⟨g, cap, rowS 16 A sp, by rw [hl], hb, h, by rw [hl]; exact h16, hc, by rw [hs, Nat.mul_one], ?_⟩⟩
  have e2 : (row32 16 A).toList = numsV .u32 (lst16 A) := rfl
  unfold rowS
  rw [Array.toList_append, ← e2, hl]
  rw [List.take_left' (by simp [row32, row])]

theorem byte_of_shift (X : BitVec 32) (j : Nat) : val (X >>> (8 * j)) % 256 = ((byteAt X (8 * j)).toNat : Int) := by
  rw [byteAt_val, shr32]
theorem word_of_shift (X : BitVec 32) (j : Nat) : val (X >>> (8 * j)) / 256 = val (X >>> (8 * (j + 1))) := by
  rw [← shr32, ← shr32, Int.ediv_ediv_of_nonneg (Int.le_of_lt (Int.pow_pos (by decide))), show (256 : Int) = 2 ^ 8 from rfl, ← Int.pow_add]; rfl
theorem le4_take (X : BitVec 32) (j : Nat) (h : j < 4) (L : List UInt8) : L ++ (le4 X).take (j + 1) = L ++ (le4 X).take j ++ [byteAt X (8 * j)] := by
  rw [List.append_assoc]
  match j, h with
  | 0, _ => rfl
  | 1, _ => rfl
  | 2, _ => rfl
  | 3, _ => rfl
/-- A round of the reference's: columns, diagonals, in turn. -/
def half (k : Nat) (A : Nat → BitVec 32) (i : Nat) : Nat → BitVec 32 := if k % 2 = 1 then diags A i else cols A i
def halves (A : Nat → BitVec 32) : Nat → (Nat → BitVec 32)
  | 0 => A
  | k + 1 => half k (halves A k) 4
theorem halves_rounds (A : Nat → BitVec 32) (k : Nat) : halves A (2 * k) = rounds A k := by
  induction k with
  | zero => rfl
  | succ k ih =>
    show half (2 * k + 1) (half (2 * k) (halves A (2 * k)) 4) 4 = _
    rw [ih]
    unfold half
    rw [if_pos (by omega), if_neg (by omega)]
    rfl

end Go.Proofs.YtcbcknfhblamfaaGreatDoor
namespace Go.Proofs.YtcbcknfhblamfaaGreatDoor
open Go.RowKit

/-- The first m blocks, from number 1 on. -/
def blocksB (key nonce : List UInt8) (m : Nat) : List UInt8 := (List.range m).flatMap fun j => block key (1 + j) nonce
theorem blocksB_succ (key nonce : List UInt8) (m : Nat) : blocksB key nonce (m + 1) = blocksB key nonce m ++ block key (1 + m) nonce := by simp [blocksB, List.range_succ]
theorem blocksB_length (key nonce : List UInt8) (m : Nat) : (blocksB key nonce m).length = 64 * m := by
  induction m with
  | zero => rfl
  | succ m ih => rw [blocksB_succ, List.length_append, ih, block_length]; omega
theorem blocksB_get (key nonce : List UInt8) (m i : Nat) (h : i < 64 * m) : (blocksB key nonce m).getD i 0 = streamAt key nonce i := by
  induction m with
  | zero => omega
  | succ m ih =>
    rw [blocksB_succ, List.getD_eq_getElem?_getD]
    by_cases hi : i < 64 * m
    · rw [List.getElem?_append_left (by rw [blocksB_length]; exact hi), ← List.getD_eq_getElem?_getD, ih hi]
    · rw [List.getElem?_append_right (by rw [blocksB_length]; omega), blocksB_length, ← List.getD_eq_getElem?_getD]
      unfold streamAt
      rw [show i / 64 = m by omega, show i % 64 = i - 64 * m by omega]

end Go.Proofs.YtcbcknfhblamfaaGreatDoor
