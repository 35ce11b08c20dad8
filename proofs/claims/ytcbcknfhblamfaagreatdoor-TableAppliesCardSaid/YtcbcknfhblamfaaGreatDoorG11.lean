/- Package stream: what each of its functions computes (the walks), up to 'quarter'. · Byte slices that a call makes itself: append, and the string of them. -/
import Derived.Test.YtcbcknfhblamfaaGreatDoorProg
import Derived.Test.YtcbcknfhblamfaaGreatDoorWords
namespace Go.Proofs.YtcbcknfhblamfaaGreatDoor
open Go.RowKit

def addAt (A : Nat → BitVec 32) (a b : Nat) : Nat → BitVec 32 := upd A a (A a + A b)
def mixAt (A : Nat → BitVec 32) (d a n : Nat) : Nat → BitVec 32 := upd A d (rotl (A d ^^^ A a) n)
/-- A quarter of a round. -/
def quarter (A : Nat → BitVec 32) (a b c d : Nat) : Nat → BitVec 32 :=
  mixAt (addAt (mixAt (addAt (mixAt (addAt (mixAt (addAt A a b) d a 16) c d) b c 12) a b) d a 8) c d) b c 7
/-- Four bytes, the least first. -/
def wordAt (l : List UInt8) (k : Nat) : BitVec 32 :=
  BitVec.ofNat 32 (l.getD k 0).toNat ||| BitVec.ofNat 32 (l.getD (k + 1) 0).toNat <<< 8 ||| BitVec.ofNat 32 (l.getD (k + 2) 0).toNat <<< 16 ||| BitVec.ofNat 32 (l.getD (k + 3) 0).toNat <<< 24

theorem byte32 (b : UInt8) : (b.toNat : Int) = val (BitVec.ofNat 32 b.toNat) := by
  have := b.toNat_lt
  unfold val
  rw [BitVec.toNat_ofNat, Nat.mod_eq_of_lt (by omega)]
theorem get_data (s : ByteArray) (i : Nat) (h : i < s.size) : s[i] = s.data.toList.getD i 0 := by
  show s.data[i] = _
  have : i < s.data.size := h
  simp only [List.getD_eq_getElem?_getD, Array.getElem?_toList]; rw [Array.getElem?_eq_getElem this]; rfl
theorem wordAt_walk (s : ByteArray) (h : 3 < s.size) :
    bits .or .u32 (bits .or .u32 (bits .or .u32 ((s[0].toNat : Nat) : Int) (((s[1].toNat : Nat) : Int) * 256 % 4294967296)) (((s[2].toNat : Nat) : Int) * 65536 % 4294967296)) (((s[3].toNat : Nat) : Int) * 16777216 % 4294967296) =
      val (wordAt s.data.toList 0) := by
  rw [byte32 s[0], byte32 s[1], byte32 s[2], byte32 s[3]]
  have e8 := shl32 (BitVec.ofNat 32 s[1].toNat) 8
  have e16 := shl32 (BitVec.ofNat 32 s[2].toNat) 16
  have e24 := shl32 (BitVec.ofNat 32 s[3].toNat) 24
  simp only [Int.reducePow] at e8 e16 e24
  rw [e8, e16, e24, or32, or32, or32]
  unfold wordAt
  rw [get_data s 0 (by omega), get_data s 1 (by omega), get_data s 2 (by omega), get_data s 3 h]

/-! ### quarter: eight statements, each a region that draws its order -/
end Go.Proofs.YtcbcknfhblamfaaGreatDoor
namespace Go.Proofs.YtcbcknfhblamfaaGreatDoor
open Go.RowKit

/-- Bytes as cells. -/
def B8 (l : List UInt8) : List Value := l.map fun b => .int .u8 (b.toNat : Int)
theorem B8_append (l m : List UInt8) : B8 (l ++ m) = B8 l ++ B8 m := by simp [B8]
theorem B8_length (l : List UInt8) : (B8 l).length = l.length := by simp [B8]
theorem B8_get {l : List UInt8} {j : Nat} {u : Value} (h : (B8 l)[j]? = some u) : ∃ b, l[j]? = some b ∧ u = .int .u8 (b.toNat : Int) := by
  simp only [B8, List.getElem?_map, Option.map_eq_some_iff] at h
  obtain ⟨b, h1, h2⟩ := h
  exact ⟨b, h1, h2.symm⟩
theorem B8_one (l : List UInt8) : ∀ u ∈ B8 l, u.oneCell' = true := by
  intro u hu
  simp only [B8, List.mem_map] at hu
  obtain ⟨b, _, rfl⟩ := hu
  rfl
theorem info8 : (Tryz.prog.info? 5).map (fun i => (i.zero, i.size, i.bytes)) = some (some (.int .u8 0), 1, 1) := by kernel_rfl
/-- The slice 'v' is the call's own (its blocks lie from 'base' on), and holds the bytes 'l'. -/
def ownsB (w : World) (base : Nat) (v : Value) (l : List UInt8) : Prop := w.ownsRow base 5 1 v l.length (B8 l)
theorem ownsB_nil (w : World) (base : Nat) : ownsB w base (.slice none 0 0) [] := World.ownsRow_nil _ _ _ _
theorem ownsB_ext {w : World} {base : Nat} {v : Value} {l : List UInt8} (h : ownsB w base v l) (x : More) : ownsB (ext w x) base v l :=
  World.ownsRow.kept h (grown_ext w x none) (by cases v.ownBlock <;> simp)
theorem ownsB_kept {w w' : World} {base : Nat} {v : Value} {l : List UInt8} {r : Nat} (h : ownsB w base v l) (hg : w.grownBy w' (some r)) (hr : r < base) : ownsB w' base v l := by
  refine World.ownsRow.kept h hg ?_
  obtain ⟨_, ⟨rfl, _⟩ | ⟨g, cap, cur, rfl, hb, _⟩⟩ := h
  · exact .inl rfl
  · right; simp only [Value.ownBlock]; intro e; injection e with e; omega

theorem ownsB_base {w : World} {base : Nat} {v : Value} {l : List UInt8} (h : ownsB w base v l) : ∀ g, v.ownBlock = some g → base ≤ g := by
  obtain ⟨_, ⟨rfl, _⟩ | ⟨g, cap, cur, rfl, hb, _⟩⟩ := h
  · intro g hg; simp [Value.ownBlock] at hg
  · intro g' hg; simp only [Value.ownBlock, Option.some.injEq] at hg; omega
/-- What else was there, behind an append. -/
theorem kept_owned {w w' : World} {base : Nat} {v : Value} {l : List UInt8} {k : Nat} {ob : Obj} (h : ownsB w base v l) (hg : w.grownBy w' v.ownBlock) (hk : w.heap[k]? = some ob) (hlt : k < base) : w'.heap[k]? = some ob :=
  (hg.block k (lt_of_heap hk) (fun e => by have := ownsB_base h k e.symm; omega)).trans hk

/-! ### '[]byte(s)': a row of bytes with something behind it -/
def rowB (xs : List UInt8) (sp : Array Value) : Array Value := (B8 xs).toArray ++ sp
theorem rowB_size (xs : List UInt8) (sp : Array Value) : (rowB xs sp).size = xs.length + sp.size := by simp [rowB, B8_length]
theorem rowB_get {xs : List UInt8} {sp : Array Value} {i : Nat} (h : i < xs.length) : (rowB xs sp)[i]? = some (.int .u8 (xs[i].toNat : Int)) := by
  unfold rowB
  rw [Array.getElem?_append_left (by simpa [B8_length] using h), List.getElem?_toArray]
  simp [B8, List.getElem?_eq_getElem h]
theorem rowB_set {xs : List UInt8} {sp : Array Value} {i : Nat} (h : i < xs.length) (b : UInt8) : (rowB xs sp).setIfInBounds i (.int .u8 (b.toNat : Int)) = rowB (xs.set i b) sp := by
  unfold rowB
  rw [Array.setIfInBounds_append_left (by simpa [B8_length] using h)]
  congr 1
  simp [B8, List.map_set]
theorem bytesRow_rowB (s : ByteArray) (cap : Nat) : ∃ sp, bytesRow s cap = rowB s.data.toList sp := by
  refine ⟨Array.replicate (cap - s.size) (.int .u8 0), ?_⟩
  unfold bytesRow rowB
  congr 1
  rw [← Array.toList_inj]; simp [B8]
theorem cell_of_rowB {w : World} {b : Nat} {xs : List UInt8} {sp : Array Value} {t : TypeId} {f : Nat × Nat} (h : w.heap[b]? = some (.cells (rowB xs sp) t f)) (i : Nat) (hi : i < xs.length) :
    w.cell? ⟨b, i, none⟩ = some (.int .u8 (xs[i].toNat : Int)) := by
  rw [cell_in, h]; simp [cellIn, rowB_get hi]
theorem free_of_rowB {w : World} {b : Nat} {xs : List UInt8} {sp : Array Value} {t : TypeId} {m : Nat} (h : w.heap[b]? = some (.cells (rowB xs sp) t (m, m + 1))) (hm : xs.length ≤ m) (i : Nat) (hi : i < xs.length) :
    w.frozen? ⟨b, i, none⟩ = false := by
  rw [frozen_in, h]; simp [frozenIn]; omega
theorem store_rowB {w : World} {x : More} {b i : Nat} {xs : List UInt8} {sp : Array Value} {t : TypeId} {f : Nat × Nat} {v : UInt8} (h : w.heap[b]? = some (.cells (rowB xs sp) t f)) (hi : i < xs.length) :
    ((ext w x).setCell ⟨b, i, none⟩ (.int .u8 (v.toNat : Int))).heap[b]? = some (.cells (rowB (xs.set i v) sp) t f) ∧ w.grownBy ((ext w x).setCell ⟨b, i, none⟩ (.int .u8 (v.toNat : Int))) (some b) := by
  have hb := lt_of_heap h
  constructor
  · rw [← rowB_set hi]; exact heap_setCell ((ext_heap hb).trans h) _
  · exact (grown_ext w x _).trans (grown_setCell _ _ _ _)
section
variable {ops : Array Oper} {rest : List Oper} {o : Oper} {a : Act} {w : World} {Q : Exit → Act → World → Prop}
end
end Go.Proofs.YtcbcknfhblamfaaGreatDoor
