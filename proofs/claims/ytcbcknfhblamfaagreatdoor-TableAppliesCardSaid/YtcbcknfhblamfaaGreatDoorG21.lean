/- Own rows put in order by sort.Slice, as a list. · oublietteref.mix (printed by wip/bin/gen_mix.py), in, long. -/
import Derived.Test.YtcbcknfhblamfaaGreatDoorProg
import Derived.Test.YtcbcknfhblamfaaGreatDoorG10
import Derived.Test.YtcbcknfhblamfaaGreatDoorG16
import Derived.Test.YtcbcknfhblamfaaGreatDoorG20
import Derived.Test.YtcbcknfhblamfaaGreatDoorG11
namespace Go.Proofs.YtcbcknfhblamfaaGreatDoor
open Go.RowKit Go.Shelf

theorem four_of {w : World} {g o : Nat} {x : Cell} (h : w.cell? ⟨g, o, none⟩ = some (.string x.table) ∧ w.cell? ⟨g, o + 1, none⟩ = some (.string x.row) ∧ w.cell? ⟨g, o + 2, none⟩ = some (.string x.subject) ∧ w.cell? ⟨g, o + 3, none⟩ = some (.string x.value)) (i : Nat) (v : Value) (hi : (cellVs x)[i]? = some v) :
    w.cell? ⟨g, o + i, none⟩ = some v := by
  obtain ⟨a0, a1, a2, a3⟩ := h
  match i, hi with
  | 0, hi => obtain rfl : Value.string x.table = v := by simpa [cellVs] using hi
             exact a0
  | 1, hi => obtain rfl : Value.string x.row = v := by simpa [cellVs] using hi
             exact a1
  | 2, hi => obtain rfl : Value.string x.subject = v := by simpa [cellVs] using hi
             exact a2
  | 3, hi => obtain rfl : Value.string x.value = v := by simpa [cellVs] using hi
             exact a3
  | i + 4, hi => simp [cellVs] at hi
/-- Own rows are put in order. -/
theorem sortF_any (jb n2 c2 : Nat) (q2 : Option Addr) (F2 : List Cell) (w : World) (ho : ownsCl w (jb + 1) (.slice q2 n2 c2) F2) (hn : n2 = F2.length) (h50 : n2 < 50) (hj : w.heap[jb]? = some (.cells #[.slice q2 n2 c2] 25 (0, 0))) (hO : Once F2) :
    Calls Tryz.prog 16 #[.iface 25 (.slice q2 n2 c2), .func (.func 17) #[] #[.pointer (some ⟨jb, 0, none⟩)]] w fun e w' =>
      e = .returned (.tuple #[]) ∧ ∃ D', D'.Perm F2 ∧ Asc D' ∧ D'.length = n2 ∧ cellsIn w' q2 D' ∧ ∃ r, w.grownBy w' r ∧ ∀ g, r = some g → jb < g := by
  by_cases h1 : n2 ≤ 1
  · refine (slice_tiny q2 n2 c2 h1 _ _ _ w).mono ?_
    rintro _ w2 ⟨rfl, hx⟩
    have hb := ext_iff.1 hx
    refine ⟨rfl, F2, List.Perm.refl _, ?_, hn.symm, ?_, none, ⟨hb.os, hb.tape, hb.output, hb.size, fun k hk _ => hb.block k hk⟩, by simp⟩
    · unfold Asc
      match F2, hn with
      | [], _ => exact List.Pairwise.nil
      | [a], _ => exact List.pairwise_singleton ..
      | a :: b :: l, hn => simp at hn; omega
    · by_cases hF : F2 = []
      · exact .inl hF
      · obtain ⟨g, cap, cur, hv, hg, hh, _, _, _, hx'⟩ := ownsCl_form ho hF
        injection hv with e1 e2 e3
        subst e1
        refine .inr ⟨g, rfl, Nat.lt_of_lt_of_le (lt_of_heap hh) hb.size, fun j hj i v hi => ?_⟩
        have h4 := cell_of (holdsC hh hx') (i := j) (by simpa using hj)
        have e : ∀ o, w2.cell? ⟨g, o, none⟩ = w.cell? ⟨g, o, none⟩ := fun o => World.cell?_of_block (hb.block g (lt_of_heap hh))
        rw [Nat.zero_add, e]
        have ed : F2.toArray[j]! = F2[j]! := by simp
        rw [ed] at h4
        exact four_of h4 i v hi
  · have hF : F2 ≠ [] := fun e => by subst e; simp at hn; omega
    obtain ⟨g, cap, cur, hv, hg, hh, _, _, _, hx'⟩ := ownsCl_form ho hF
    injection hv with e1 e2 e3
    subst e1
    refine (slice_any g jb n2 c2 F2.toArray w (by simp [hn]) (by omega) h50 (holdsC hh hx') (lt_of_heap hh) hj (by omega)).mono ?_
    rintro _ w2 ⟨rfl, d', hp, hs, hH, hg2⟩
    have hsz : d'.size = n2 := hp.1.trans (by simp [hn])
    have hq := sorted_asc (d := F2.toArray) (d' := d') hO (by simpa [← hn] using hp) (by rw [← ltC_eq]; simpa [← hn] using hs)
    refine ⟨rfl, d'.toList, hq.1, hq.2, by simp [hsz], .inr ⟨g, rfl, Nat.lt_of_lt_of_le (lt_of_heap hh) hg2.size, fun j hj i v hi => ?_⟩, some g, hg2, fun g' e => by injection e; omega⟩
    have h4 := cell_of hH (i := j) (by simpa using hj)
    rw [Nat.zero_add]
    have ed : d'.toList[j]! = d'[j]! := by
      rw [getElem!_pos d'.toList j hj, getElem!_pos d' j (by simpa using hj)]
      simp
    rw [ed] at hi
    exact four_of h4 i v hi
end Go.Proofs.YtcbcknfhblamfaaGreatDoor
namespace Go.Proofs.YtcbcknfhblamfaaGreatDoor
open Go.RowKit

/-! ### A row of words with something behind it -/
def rowS (n : Nat) (A : Nat → BitVec 32) (sp : Array Value) : Array Value := row32 n A ++ sp
theorem rowS_set {n : Nat} (A : Nat → BitVec 32) (sp : Array Value) (i : Nat) (hi : i < n) (v : BitVec 32) : (rowS n A sp).setIfInBounds i (.int .u32 (val v)) = rowS n (upd A i v) sp := by
  unfold rowS
  rw [Array.setIfInBounds_append_left (by rw [row32_size]; exact hi), row32_set]
theorem cell_of_rowS {w : World} {b n : Nat} {A : Nat → BitVec 32} {sp : Array Value} {t : TypeId} (h : w.heap[b]? = some (.cells (rowS n A sp) t (0, 0))) :
    ∀ i, i < n → w.cell? ⟨b, i, none⟩ = some (.int .u32 (val (A i))) := by
  intro i hi
  rw [cell_in, h]
  simp only [cellIn, rowS, Option.isSome_none, Bool.false_eq_true, if_false]
  rw [Array.getElem?_append_left (by rw [row32_size]; exact hi)]
  simp [row32, row_get, hi]
theorem store_rowS {w : World} {x : More} {b n i : Nat} {A : Nat → BitVec 32} {sp : Array Value} {t : TypeId} {v : BitVec 32} (hi : i < n) (h : w.heap[b]? = some (.cells (rowS n A sp) t (0, 0))) :
    ((ext w x).setCell ⟨b, i, none⟩ (.int .u32 (val v))).heap[b]? = some (.cells (rowS n (upd A i v) sp) t (0, 0)) ∧
    w.grownBy ((ext w x).setCell ⟨b, i, none⟩ (.int .u32 (val v))) (some b) := by
  have hb := lt_of_heap h
  constructor
  · rw [← rowS_set A sp i hi]; exact heap_setCell ((ext_heap hb).trans h) _
  · exact (grown_ext w x _).trans (grown_setCell _ _ _ _)

/-! ### left -/
theorem left_bits (x : BitVec 32) (n : Nat) (hn : n ≤ 31) : ((x.setWidth 64 <<< n) ||| (x.setWidth 64 <<< n) >>> 32).setWidth 32 = rotl x n := by
  unfold rotl
  apply BitVec.eq_of_getLsbD_eq
  intro i hi
  simp only [BitVec.getLsbD_setWidth, BitVec.getLsbD_or, BitVec.getLsbD_shiftLeft, BitVec.getLsbD_ushiftRight]
  have h1 : decide (i < 32) = true := decide_eq_true hi
  have h2 : decide (i < 64) = true := decide_eq_true (by omega)
  have h3 : decide (32 + i < 64) = true := decide_eq_true (by omega)
  have h4 : decide (32 + i < n) = false := decide_eq_false (by omega)
  have h5 : decide (i - n < 64) = true := decide_eq_true (by omega)
  have h6 : decide (32 + i - n < 64) = true := decide_eq_true (by omega)
  rw [h1, h2, h3, h4, h5, h6, show 32 + i - n = 32 - n + i by omega]
  simp
theorem left_walk (x : BitVec 32) (n : Nat) (hn : n ≤ 31) : bits .or .u64 (val x * 2 ^ n) (val x * 2 ^ n / 4294967296) % 4294967296 = val (rotl x n) := by
  have hx : x.toNat < 4294967296 := x.isLt
  have hb : x.toNat * 2 ^ n < 18446744073709551616 := by
    have h2 : 2 ^ n ≤ 2147483648 := Nat.pow_le_pow_right (n := 2) (by omega) hn
    exact Nat.lt_of_le_of_lt (Nat.mul_le_mul (show x.toNat ≤ 4294967295 by omega) h2) (by decide)
  have e1 : (val x * 2 ^ n : Int) = ((x.setWidth 64 <<< n).toNat : Int) := by
    unfold val
    rw [BitVec.toNat_shiftLeft, BitVec.toNat_setWidth, Nat.shiftLeft_eq, Nat.mod_eq_of_lt (show x.toNat < 18446744073709551616 by omega), Nat.mod_eq_of_lt hb]
    push_cast; rfl
  have e2 : (val x * 2 ^ n / 4294967296 : Int) = (((x.setWidth 64 <<< n) >>> 32).toNat : Int) := by
    rw [e1, BitVec.toNat_ushiftRight, Nat.shiftRight_eq_div_pow]
    generalize (x.setWidth 64 <<< n).toNat = q
    show (q : Int) / 4294967296 = ((q / 4294967296 : Nat) : Int)
    omega
  rw [e2, e1, bits_or]
  show IntKind.u64.wrap ((BitVec.ofInt 64 _ ||| BitVec.ofInt 64 _).toNat : Int) % 4294967296 = _
  rw [ofInt_toNat, ofInt_toNat, ← left_bits x n hn, IntKind.wrap_u64]
  unfold val
  generalize (x.setWidth 64 <<< n ||| (x.setWidth 64 <<< n) >>> 32) = y
  rw [BitVec.toNat_setWidth]
  have hy : y.toNat < 18446744073709551616 := y.isLt
  show ((y.toNat : Nat) : Int) % 18446744073709551616 % 4294967296 = ((y.toNat % 4294967296 : Nat) : Int)
  omega

theorem cells4 {w : World} {b : Nat} {t : TypeId} {p q r s : Int} (h : w.heap[b]? = some (.cells #[.int .i64 p, .int .i64 q, .int .i64 r, .int .i64 s] t (0, 0))) :
    w.cell? ⟨b, 0, none⟩ = some (.int .i64 p) ∧ w.cell? ⟨b, 1, none⟩ = some (.int .i64 q) ∧ w.cell? ⟨b, 2, none⟩ = some (.int .i64 r) ∧ w.cell? ⟨b, 3, none⟩ = some (.int .i64 s) := by
  refine ⟨?_, ?_, ?_, ?_⟩ <;> (rw [cell_in, h]; rfl)

end Go.Proofs.YtcbcknfhblamfaaGreatDoor
