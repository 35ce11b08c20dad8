/- sum.Sum. · sum.Mark. · Arguments as data: slices of texts, bytes, in the walks' words. · What is laid over a world is met there (apart from the events' lists). -/
import Derived.Test.YtcbcknfhblamfaaGreatDoorProg
import Derived.Test.YtcbcknfhblamfaaGreatDoorG31
import Derived.SliceStrings
import Derived.Carry
import Derived.ProofKit
import Derived.Test.YtcbcknfhblamfaaGreatDoorRows
import Derived.Lib.SmallJoins
import Derived.Lib.LaidTab
import Derived.Stop.LaidErr
import Derived.Shelf.Vars
import Derived.Handed
import Derived.Lay
namespace Go.Proofs.YtcbcknfhblamfaaGreatDoor
open Go.RowKit

def ivW : Nat → BitVec 32 := st8 1779033703#32 3144134277#32 1013904242#32 2773480762#32 1359893119#32 2600822924#32 528734635#32 1541459225#32
theorem iv_row : #[Value.int .u32 1779033703, .int .u32 3144134277, .int .u32 1013904242, .int .u32 2773480762, .int .u32 1359893119, .int .u32 2600822924, .int .u32 528734635, .int .u32 1541459225] = row32 8 ivW := rfl
/-- So many zeros are laid behind n bytes and one. -/
def zerosOf (n : Nat) : Nat := (119 - n % 64) % 64
theorem zerosOf_end (n : Nat) : (n + 1 + zerosOf n) % 64 = 56 := by unfold zerosOf; omega
theorem zerosOf_first (n k : Nat) (h : k < zerosOf n) : (n + 1 + k) % 64 ≠ 56 := by unfold zerosOf at h; omega
theorem zerosOf_lt (n : Nat) : zerosOf n < 64 := Nat.mod_lt _ (by decide)
def padZ (l : List UInt8) (k : Nat) : List UInt8 := l ++ [128] ++ List.replicate k 0
theorem padZ_succ (l : List UInt8) (k : Nat) : padZ l (k + 1) = padZ l k ++ [0] := by simp [padZ, List.replicate_succ']
theorem padZ_length (l : List UInt8) (k : Nat) : (padZ l k).length = l.length + 1 + k := by simp [padZ]; omega
def padded (l : List UInt8) : List UInt8 := padZ l (zerosOf l.length) ++ numB (8 * l.length)
theorem padded_length (l : List UInt8) : (padded l).length = 64 * ((l.length + 72) / 64) := by
  unfold padded numB
  rw [List.length_append, padZ_length, numTo_length]; unfold zerosOf; omega
def part64 (l : List UInt8) (k : Nat) : List UInt8 := (l.drop (64 * k)).take 64
def foldSha (l : List UInt8) : Nat → (Nat → BitVec 32)
  | 0 => ivW
  | k + 1 => shaBlock (foldSha l k) (part64 l k)
def be4 (x : BitVec 32) : List UInt8 := [byteAt x 24, byteAt x 16, byteAt x 8, byteAt x 0]
theorem be4_cells (x : BitVec 32) : #[Value.int .u8 (val x / 16777216 % 256), Value.int .u8 (val x / 65536 % 256), Value.int .u8 (val x / 256 % 256), Value.int .u8 (val x % 256)] = (B8 (be4 x)).toArray := by
  simp only [B8, be4, List.map_cons, List.map_nil, byteAt_val, Int.reducePow, Int.pow_zero, Int.ediv_one]
def wordsB (A : Nat → BitVec 32) (k : Nat) : List UInt8 := (List.range k).flatMap fun i => be4 (A i)
theorem wordsB_succ (A : Nat → BitVec 32) (k : Nat) : wordsB A (k + 1) = wordsB A k ++ be4 (A k) := by simp [wordsB, List.range_succ]
theorem wordsB_length (A : Nat → BitVec 32) (k : Nat) : (wordsB A k).length = 4 * k := by
  induction k with
  | zero => rfl
  | succ k ih => rw [wordsB_succ, List.length_append, ih]; simp [be4]; omega
/-- The sum of a text. -/
def sumB (l : List UInt8) : List UInt8 := wordsB (foldSha (padded l) ((l.length + 72) / 64)) 8
def lenV : Value → Nat
  | .slice _ n _ => n
  | _ => 0
theorem ownsC_lt {w : World} {base : Nat} {v : Value} {l : List UInt8} (h : ownsC w base v l) : ∀ g, v.ownBlock = some g → g < w.heap.size := by
  rcases h with ⟨rfl, _⟩ | ⟨g, cap, rfl, hb, hlt, _⟩
  · intro g hg; simp [Value.ownBlock] at hg
  · intro g' hg; simp only [Value.ownBlock, Option.some.injEq] at hg; omega
theorem ownsC_form {w : World} {base : Nat} {v : Value} {l : List UInt8} (h : ownsC w base v l) : ∃ p cap, v = .slice p l.length cap := by
  rcases h with ⟨rfl, rfl⟩ | ⟨g, cap, rfl, _⟩
  · exact ⟨_, _, rfl⟩
  · exact ⟨_, _, rfl⟩
theorem ownsC_form' {w : World} {base n : Nat} {v : Value} {l : List UInt8} (h : ownsC w base v l) (hn : l.length = n) : ∃ p cap, v = .slice p n cap := by
  subst hn; exact ownsC_form h

end Go.Proofs.YtcbcknfhblamfaaGreatDoor
namespace Go.Proofs.YtcbcknfhblamfaaGreatDoor
open Go.RowKit

/-- What a mark is the sum of: a kind, and texts with their lengths ahead of them. -/
def markTo (k : UInt8) (ps : List ByteArray) : Nat → List UInt8
  | 0 => [k]
  | q + 1 => markTo k ps q ++ (numB (ps.getD q ⟨#[]⟩).size ++ (ps.getD q ⟨#[]⟩).data.toList)
def markMsg (k : UInt8) (ps : List ByteArray) : List UInt8 := markTo k ps ps.length
def markB (k : UInt8) (ps : List ByteArray) : List UInt8 := (sumB (markMsg k ps)).take 16
theorem extract_front (l : List UInt8) (n : Nat) : (⟨l.toArray⟩ : ByteArray).extract 0 n = ⟨(l.take n).toArray⟩ := by
  have h := data_extract l 0 n
  rw [List.drop_zero, Nat.sub_zero] at h
  rw [← h]
theorem sumB_length (l : List UInt8) : (sumB l).length = 32 := by unfold sumB; rw [wordsB_length]
theorem markTo_le (k : UInt8) (ps : List ByteArray) (q r : Nat) (h : q ≤ r) : (markTo k ps q).length ≤ (markTo k ps r).length := by
  induction r with
  | zero => obtain rfl : q = 0 := by omega
            exact Nat.le_refl _
  | succ r ih =>
    by_cases e : q = r + 1
    · subst e; exact Nat.le_refl _
    · have := ih (by omega)
      simp only [markTo, List.length_append]; omega
theorem markTo_ge (k : UInt8) (ps : List ByteArray) (q : Nat) : 8 * q ≤ (markTo k ps q).length := by
  induction q with
  | zero => omega
  | succ q ih => simp only [markTo, List.length_append]; rw [show (numB ((ps.getD q ⟨#[]⟩).size : Nat)).length = 8 from numTo_length _ _]; omega
/-- A slice of texts. -/
def textsAt (w : World) (p : Option Addr) (ps : List ByteArray) : Prop := ∀ j s, ps[j]? = some s → ∃ g o, p = some ⟨g, o, none⟩ ∧ g < w.heap.size ∧ w.cell? ⟨g, o + j, none⟩ = some (.string s)
theorem textsAt_of {w w' : World} {p : Option Addr} {ps : List ByteArray} (h : textsAt w p ps) (hh : ∀ k, k < w.heap.size → w'.heap[k]? = w.heap[k]?) (hs : w.heap.size ≤ w'.heap.size) : textsAt w' p ps := by
  intro j s hj
  obtain ⟨g, o, rfl, hg, hc⟩ := h j s hj
  exact ⟨g, o, rfl, Nat.lt_of_lt_of_le hg hs, by rw [cell_in] at hc ⊢; rw [hh g hg]; exact hc⟩

end Go.Proofs.YtcbcknfhblamfaaGreatDoor
namespace Go.Proofs.YtcbcknfhblamfaaGreatDoor
open Go.ChangeShapes Go.WideShapes Go.ChangeAt Go.RowKit

theorem laidOut : laidOutB Tryz.prog = true := by kernel_rfl
theorem byte_int {n : Int} (h : (Lit.int .u8 n).wf = true) : ∃ b : UInt8, n = (b.toNat : Int) := by
  have h2 : 0 ≤ n ∧ n ≤ 255 := by
    simp only [Lit.wf, Bool.and_eq_true, decide_eq_true_eq] at h
    exact ⟨h.1, h.2⟩
  refine ⟨UInt8.ofNat n.toNat, ?_⟩
  rw [UInt8.toNat_ofNat']; omega
/-- A slice of texts is a list of them. -/
theorem texts_of_Trod {H : Type} {enc : TypeId × Value → H} {W : World} {q : Option Addr} {l c : Nat} {d : DataW H} {p : List MemPlace} (h : DataW.Trod enc Tryz.prog W 0 (fun _ => true) true 42 (.slice q l c) d p) :
    ∃ ps : List ByteArray, l = ps.length ∧ textsAt W q ps := by
  obtain ⟨fuel, hf⟩ := h
  rcases open_strings Tryz.underlying42 Tryz.underlying9 (by kernel_rfl) hf with ⟨hcs, hx⟩ | ⟨a, len', cap', ss, hcs, _, hl, hm, hz, hx, hcell, hwz⟩
  · simp [Value.cells] at hcs
    obtain ⟨rfl, rfl, rfl⟩ := hcs
    exact ⟨[], rfl, fun j s hj => by simp at hj⟩
  · simp [Value.cells] at hcs
    obtain ⟨rfl, rfl, rfl⟩ := hcs
    simp only [if_true] at hz
    refine ⟨ss.take l, by rw [List.length_take]; omega, ?_⟩
    intro j s hj
    have hjl : j < l := by
      have := (List.getElem?_eq_some_iff.1 hj).1
      rw [List.length_take] at this; omega
    rw [List.getElem?_take_of_lt hjl] at hj
    obtain ⟨b, off, spot⟩ := a
    have hspot : spot = none := by simpa [Addr.add] using World.cell?_spot (hcell 0 (by omega))
    subst hspot
    have hc := hcell j (by omega)
    rw [add_flat', List.getD_eq_getElem?_getD, hj] at hc
    exact ⟨b, off, rfl, block_lt_of_cell hc, hc⟩
end Go.Proofs.YtcbcknfhblamfaaGreatDoor
namespace Go.Proofs.YtcbcknfhblamfaaGreatDoor
open Go.ChangeShapes Go.WideShapes Go.ChangeAt Go.RowKit

/-- What is laid over a world is met there. -/
theorem laid_over' {P : Program} {w0 : World} {l : List (String × DataW Unit)} (args : Array Value) (fits : w0.layFits P l [] = true) (ifs : w0.layIfaces P l (w0.layVars P l) = true) : laidMet P l ((w0.layVars P l).forCall (fun _ _ => 0) ⟨#[], args, []⟩).memory := by
  have all : (l.filter fun x => (l.map (·.1)).contains x.1) = l := by
    rw [List.filter_eq_self]
    intro x hx
    exact List.contains_iff_mem.2 (List.mem_map_of_mem hx)
  have no : (l.filter fun x => !(l.map (·.1)).contains x.1) = [] := by
    rw [List.filter_eq_nil_iff]
    intro x hx
    rw [List.contains_iff_mem.2 (List.mem_map_of_mem hx)]
    simp
  have met : laidMet P l (w0.layVars P l) := by
    refine laidMet_layVars (w0 := w0) (l.map (·.1)) [] ?_ ?_ ?_ ?_
    · rw [all]
    · rw [all]; exact fits
    · rw [all]; exact ifs
    · rw [no]; exact LaidIn.none
  exact met.of_heap (by simp [World.memory, World.forCall, Input.heap])
end Go.Proofs.YtcbcknfhblamfaaGreatDoor
