/- Words of 32 bits, bytes, rows of cells: how the walk's numbers read as bit vectors. No program. -/
import Derived.Test.YtcbcknfhblamfaaGreatDoorBase
import Derived.Maps.AppendAt
import Derived.Deep.WholeRow
namespace Go.Proofs.YtcbcknfhblamfaaGreatDoor
open Go.RowKit

/-! ### Bits -/
theorem bits_and (k : IntKind) (a b : Int) : bits .and k a b = k.wrap ((BitVec.ofInt k.bits a &&& BitVec.ofInt k.bits b).toNat : Nat) := rfl
theorem bits_or (k : IntKind) (a b : Int) : bits .or k a b = k.wrap ((BitVec.ofInt k.bits a ||| BitVec.ofInt k.bits b).toNat : Nat) := rfl
theorem bits_xor (k : IntKind) (a b : Int) : bits .xor k a b = k.wrap ((BitVec.ofInt k.bits a ^^^ BitVec.ofInt k.bits b).toNat : Nat) := rfl
theorem ofInt_toNat {n : Nat} (x : BitVec n) : BitVec.ofInt n (x.toNat : Int) = x := by simp
theorem wrap32_toNat (x : BitVec 32) : IntKind.u32.wrap (x.toNat : Int) = x.toNat := by
  have := x.isLt; rw [IntKind.wrap_u32]; omega
theorem wrap8_toNat (x : BitVec 8) : IntKind.u8.wrap (x.toNat : Int) = x.toNat := by
  have := x.isLt; rw [IntKind.wrap_u8]; omega
/-- A word's number: a name of its own, so that 'simp' does not take its sums apart. -/
def val (x : BitVec 32) : Int := x.toNat
theorem val_lt (x : BitVec 32) : 0 ≤ val x ∧ val x < 4294967296 := by
  have := x.isLt; unfold val; omega
@[go_sem] theorem and32 (x y : BitVec 32) : bits .and .u32 (val x) (val y) = val (x &&& y) := by
  rw [bits_and]; show IntKind.u32.wrap ((BitVec.ofInt 32 _ &&& BitVec.ofInt 32 _).toNat : Int) = _
  unfold val; rw [ofInt_toNat, ofInt_toNat, wrap32_toNat]
@[go_sem] theorem or32 (x y : BitVec 32) : bits .or .u32 (val x) (val y) = val (x ||| y) := by
  rw [bits_or]; show IntKind.u32.wrap ((BitVec.ofInt 32 _ ||| BitVec.ofInt 32 _).toNat : Int) = _
  unfold val; rw [ofInt_toNat, ofInt_toNat, wrap32_toNat]
@[go_sem] theorem xor32 (x y : BitVec 32) : bits .xor .u32 (val x) (val y) = val (x ^^^ y) := by
  rw [bits_xor]; show IntKind.u32.wrap ((BitVec.ofInt 32 _ ^^^ BitVec.ofInt 32 _).toNat : Int) = _
  unfold val; rw [ofInt_toNat, ofInt_toNat, wrap32_toNat]
theorem xor8 (x y : UInt8) : bits .xor .u8 (x.toNat : Int) (y.toNat : Int) = ((x ^^^ y).toNat : Int) := by
  rw [bits_xor]; show IntKind.u8.wrap ((BitVec.ofInt 8 _ ^^^ BitVec.ofInt 8 _).toNat : Int) = _
  rw [show (x.toNat : Int) = (x.toBitVec.toNat : Int) from rfl, show (y.toNat : Int) = (y.toBitVec.toNat : Int) from rfl, ofInt_toNat, ofInt_toNat, wrap8_toNat]; rfl
@[go_sem] theorem add32 (x y : BitVec 32) : (val x + val y) % 4294967296 = val (x + y) := by
  unfold val; rw [BitVec.toNat_add, show (2 : Nat) ^ 32 = 4294967296 from rfl]; omega
@[go_sem] theorem mod32 (x : BitVec 32) : val x % 4294967296 = val x := by
  have := val_lt x; omega
@[go_sem] theorem byte_mod32 (b : UInt8) : (b.toNat : Int) % 4294967296 = (b.toNat : Int) := by
  have := b.toNat_lt; omega
theorem shl32 (x : BitVec 32) (n : Nat) : val x * 2 ^ n % 4294967296 = val (x <<< n) := by
  unfold val; rw [BitVec.toNat_shiftLeft, Nat.shiftLeft_eq, show (2 : Nat) ^ 32 = 4294967296 from rfl]
  simp only [Int.natCast_emod, Int.natCast_mul, Int.natCast_pow]; rfl
theorem shr32 (x : BitVec 32) (n : Nat) : val x / 2 ^ n = val (x >>> n) := by
  unfold val; rw [BitVec.toNat_ushiftRight, Nat.shiftRight_eq_div_pow]
  simp only [Int.natCast_ediv, Int.natCast_pow]; rfl
/-- A word turned to the left. -/
def rotl (x : BitVec 32) (n : Nat) : BitVec 32 := x <<< n ||| x >>> (32 - n)

/-! ### Strings as lists of bytes -/
theorem str_append (l m : List UInt8) : (⟨l.toArray⟩ : ByteArray) ++ ⟨m.toArray⟩ = ⟨(l ++ m).toArray⟩ := by
  apply ByteArray.ext; simp
theorem str_eta (s : ByteArray) : (⟨s.data.toList.toArray⟩ : ByteArray) = s := rfl
theorem data_extract (l : List UInt8) (a b : Nat) : ((⟨l.toArray⟩ : ByteArray).extract a b).data.toList = (l.drop a).take (b - a) := by
  rw [Lib.extract_data]
theorem data_append (s t : ByteArray) : (s ++ t).data.toList = s.data.toList ++ t.data.toList := by simp

/-! ### Rows of cells -/
/-- n cells, the i-th holding 'F i'. -/
def row (n : Nat) (F : Nat → Value) : Array Value := ((List.range n).map F).toArray
/-- 'F' with another value at i. -/
def upd {α : Type} (F : Nat → α) (i : Nat) (v : α) : Nat → α := fun j => if j = i then v else F j
theorem row_size (n : Nat) (F : Nat → Value) : (row n F).size = n := by simp [row]
theorem row_get (n : Nat) (F : Nat → Value) (i : Nat) : (row n F)[i]? = if i < n then some (F i) else none := by
  simp only [row, List.getElem?_toArray, List.getElem?_map]
  split
  · rename_i h; rw [List.getElem?_range h]; rfl
  · rename_i h; rw [List.getElem?_eq_none (by simpa using h)]; rfl
theorem row_set (n : Nat) (F : Nat → Value) (i : Nat) (v : Value) : (row n F).setIfInBounds i v = row n (upd F i v) := by
  apply Array.ext_getElem?
  intro j
  rw [Array.getElem?_setIfInBounds, row_get, row_get, row_size]
  unfold upd
  split
  · rename_i h; subst h; split <;> simp
  · rename_i h; rw [if_neg (show ¬ j = i from fun e => h e.symm)]
theorem row_congr {n : Nat} {F G : Nat → Value} (h : ∀ i, i < n → F i = G i) : row n F = row n G := by
  apply Array.ext_getElem?
  intro j
  rw [row_get, row_get]
  split
  · rename_i hj; rw [h j hj]
  · rfl

def row32 (n : Nat) (A : Nat → BitVec 32) : Array Value := row n fun i => .int .u32 (val (A i))
theorem row32_set (n : Nat) (A : Nat → BitVec 32) (i : Nat) (v : BitVec 32) : (row32 n A).setIfInBounds i (.int .u32 (val v)) = row32 n (upd A i v) := by
  unfold row32; rw [row_set]; apply row_congr; intro j _; unfold upd; split <;> rfl

theorem cell_of_row32 {w : World} {b n : Nat} {A : Nat → BitVec 32} {t : TypeId} (h : w.heap[b]? = some (.cells (row32 n A) t (0, 0))) :
    ∀ i, i < n → w.cell? ⟨b, i, none⟩ = some (.int .u32 (val (A i))) := by
  intro i hi
  rw [cell_in, h]; simp [cellIn, row32, row_get, hi]
theorem free_of_heap {w : World} {b : Nat} {c : Array Value} {t : TypeId} (h : w.heap[b]? = some (.cells c t (0, 0))) :
    ∀ i, w.frozen? ⟨b, i, none⟩ = false := by
  intro i; rw [frozen_in, h]; simp [frozenIn]
theorem lt_of_heap {w : World} {b : Nat} {o : Obj} (h : w.heap[b]? = some o) : b < w.heap.size := by
  rcases Nat.lt_or_ge b w.heap.size with h' | h'
  · exact h'
  · rw [Array.getElem?_eq_none h'] at h; cases h
theorem heap_setCell {w : World} {b i : Nat} {c : Array Value} {t : TypeId} {f : Nat × Nat} (h : w.heap[b]? = some (.cells c t f)) (v : Value) :
    (w.setCell ⟨b, i, none⟩ v).heap[b]? = some (.cells (c.setIfInBounds i v) t f) := by
  simp [World.setCell, Array.getElem?_modify, h]
theorem grown_setCell (w : World) (b i : Nat) (v : Value) : w.grownBy (w.setCell ⟨b, i, none⟩ v) (some b) :=
  ⟨rfl, rfl, rfl, by simp [World.setCell], fun k _ hk => Below.heap_setCell _ _ _ _ (fun e => hk (by simpa using e))⟩
theorem grown_ext (w : World) (x : More) (r : Option Nat) : w.grownBy (ext w x) r :=
  ⟨rfl, rfl, rfl, by simp, fun _ h _ => ext_heap h⟩
theorem grown_below {w w' : World} (h : Below w.heap.size w w') (r : Option Nat) : w.grownBy w' r := ⟨h.os, h.tape, h.output, h.size, fun k hk _ => h.block k hk⟩
theorem grown_refl (w : World) (r : Option Nat) : w.grownBy w r := ⟨rfl, rfl, rfl, Nat.le_refl _, fun _ _ _ => rfl⟩
/-- A store into a row of words, behind whatever was called. -/
theorem store_row32 {w : World} {x : More} {b n i : Nat} {A : Nat → BitVec 32} {t : TypeId} {v : BitVec 32} (h : w.heap[b]? = some (.cells (row32 n A) t (0, 0))) :
    ((ext w x).setCell ⟨b, i, none⟩ (.int .u32 (val v))).heap[b]? = some (.cells (row32 n (upd A i v)) t (0, 0)) ∧
    w.grownBy ((ext w x).setCell ⟨b, i, none⟩ (.int .u32 (val v))) (some b) := by
  have hb := lt_of_heap h
  constructor
  · rw [← row32_set]; exact heap_setCell ((ext_heap hb).trans h) _
  · exact (grown_ext w x _).trans (grown_setCell _ _ _ _)
theorem store_row32' {w : World} {b n i : Nat} {A : Nat → BitVec 32} {t : TypeId} {v : BitVec 32} {m : Int} (hm : m = val v) (h : w.heap[b]? = some (.cells (row32 n A) t (0, 0))) :
    (w.setCell ⟨b, i, none⟩ (.int .u32 m)).heap[b]? = some (.cells (row32 n (upd A i v)) t (0, 0)) ∧ w.grownBy (w.setCell ⟨b, i, none⟩ (.int .u32 m)) (some b) := by
  subst hm
  exact ⟨by rw [← row32_set]; exact heap_setCell h _, grown_setCell _ _ _ _⟩
/-- A whole array into a block that has as many cells. -/
theorem wpList_store_row {P : Program} {ops : Array Oper} {rest : List Oper} {o : Oper} {a : Act} {w : World} {Q : Exit → Act → World → Prop} (hgd : o.guard = none) (ty : TypeId) (x y : Operand)
    (ho : o.op = .store ty x y) (g : Nat) (hx : a.eval x = .pointer (some ⟨g, 0, none⟩)) (t : TypeId) (cs cs' : Array Value) (hy : a.eval y = .agg cs')
    (hg : w.heap[g]? = some (.cells cs t (0, 0))) (hi : (P.info? ty).map (·.size) = some cs'.size) (hs : cs.size = cs'.size) (h1 : cs'.all (·.oneCell') = true)
    (h : wpList P ops Q rest (a.put o.dst undef) (w.setRow g cs')) : wpList P ops Q (o :: rest) a w :=
  wpList_plain hgd fun K hK => by
    unfold Oper.wp execOp
    simp only [ho, hx, hy, Instr.storeAt, Instr.sureAddr, Sem.run_bind, Sem.run_pure, Result.andThen_ok]
    rw [run_storeVar_row w g t ty cs cs' hg hi hs h1]
    exact hK _ _ h
theorem row32_one (n : Nat) (A : Nat → BitVec 32) : (row32 n A).all (·.oneCell') = true := by
  rw [Array.all_eq_true]
  intro i hi
  have h : (row32 n A)[i]? = some (row32 n A)[i] := Array.getElem?_eq_getElem hi
  unfold row32 at h
  rw [row_get] at h
  split at h
  · simp only [Option.some.injEq] at h; unfold row32; rw [← h]; rfl
  · cases h
theorem row32_size (n : Nat) (A : Nat → BitVec 32) : (row32 n A).size = n := row_size _ _
/-- An Errno as an error. -/
abbrev errV (n : Int) : Value := .iface 38 (.int .i64 n)
theorem get_data0 (s : ByteArray) (i : Nat) (h : i < s.size) : s[i] = s.data.toList.getD i 0 := by
  show s.data[i] = _
  have : i < s.data.size := h
  simp only [List.getD_eq_getElem?_getD, Array.getElem?_toList]; rw [Array.getElem?_eq_getElem this]; rfl
end Go.Proofs.YtcbcknfhblamfaaGreatDoor
