/- Words of 32 bits, bytes, rows of cells: how the walk's numbers read as bit vectors. No program. · Names, plain: small letters and digits, one to ten, a letter first. No program. · Events as text, plain. No program. · Rows as events leave them: plain lemmas. No program. -/
import Derived.Test.YtnkmckdefiblhaaGreatDoorBase
import Derived.Maps.AppendAt
import Derived.Deep.WholeRow
import Derived.Lib.SlTrimSet
import Derived.Lib.Bytealg
import Derived.Lib.IndexLaws
import Derived.Lib.SplitLaws
import Derived.Lib.IndexMore
namespace Go.Proofs.YtnkmckdefiblhaaGreatDoor
open Go.RowKit

/-! ### Bits -/
theorem bits_and (k : IntKind) (a b : Int) : bits .and k a b = k.wrap ((BitVec.ofInt k.bits a &&& BitVec.ofInt k.bits b).toNat : Nat) := rfl
theorem bits_or (k : IntKind) (a b : Int) : bits .or k a b = k.wrap ((BitVec.ofInt k.bits a ||| BitVec.ofInt k.bits b).toNat : Nat) := rfl
theorem bits_xor (k : IntKind) (a b : Int) : bits .xor k a b = k.wrap ((BitVec.ofInt k.bits a ^^^ BitVec.ofInt k.bits b).toNat : Nat) := rfl
theorem ofInt_toNat {n : Nat} (x : BitVec n) : BitVec.ofInt n (x.toNat : Int) = x := by simp
theorem wrap32_toNat (x : BitVec 32) : IntKind.u32.wrap (x.toNat : Int) = x.toNat := by
  have := x.isLt; rw [IntKind.wrap_u32]; omega
theorem wrap8_toNat (x : BitVec 8) : IntKind.u8.wrap (x.toNat : Int) = x.toNat := by
  have := x.isLt; rw [IntKind.wrap_u8]; omega
/-- A word's number: a name of its own, so that 'simp' does not take its sums apart. -/
def val (x : BitVec 32) : Int := x.toNat
theorem val_lt (x : BitVec 32) : 0 ≤ val x ∧ val x < 4294967296 := by
  have := x.isLt; unfold val; omega
@[go_sem] theorem and32 (x y : BitVec 32) : bits .and .u32 (val x) (val y) = val (x &&& y) := by
  rw [bits_and]; show IntKind.u32.wrap ((BitVec.ofInt 32 _ &&& BitVec.ofInt 32 _).toNat : Int) = _
  unfold val; rw [ofInt_toNat, ofInt_toNat, wrap32_toNat]
@[go_sem] theorem or32 (x y : BitVec 32) : bits .or .u32 (val x) (val y) = val (x ||| y) := by
  rw [bits_or]; show IntKind.u32.wrap ((BitVec.ofInt 32 _ ||| BitVec.ofInt 32 _).toNat : Int) = _
  unfold val; rw [ofInt_toNat, ofInt_toNat, wrap32_toNat]
@[go_sem] theorem xor32 (x y : BitVec 32) : bits .xor .u32 (val x) (val y) = val (x ^^^ y) := by
  rw [bits_xor]; show IntKind.u32.wrap ((BitVec.ofInt 32 _ ^^^ BitVec.ofInt 32 _).toNat : Int) = _
  unfold val; rw [ofInt_toNat, ofInt_toNat, wrap32_toNat]
theorem xor8 (x y : UInt8) : bits .xor .u8 (x.toNat : Int) (y.toNat : Int) = ((x ^^^ y).toNat : Int) := by
  rw [bits_xor]; show IntKind.u8.wrap ((BitVec.ofInt 8 _ ^^^ BitVec.ofInt 8 _).toNat : Int) = _
  rw [show (x.toNat : Int) = (x.toBitVec.toNat : Int) from rfl, show (y.toNat : Int) = (y.toBitVec.toNat : Int) from rfl, ofInt_toNat, ofInt_toNat, wrap8_toNat]; rfl
@[go_sem] theorem add32 (x y : BitVec 32) : (val x + val y) % 4294967296 = val (x + y) := by
  unfold val; rw [BitVec.toNat_add, show (2 : Nat) ^ 32 = 4294967296 from rfl]; omega
@[go_sem] theorem mod32 (x : BitVec 32) : val x % 4294967296 = val x := by
  have := val_lt x; omega
@[go_sem] theorem byte_mod32 (b : UInt8) : (b.toNat : Int) % 4294967296 = (b.toNat : Int) := by
  have := b.toNat_lt; omega
theorem shl32 (x : BitVec 32) (n : Nat) : val x * 2 ^ n % 4294967296 = val (x <<< n) := by
  unfold val; rw [BitVec.toNat_shiftLeft, Nat.shiftLeft_eq, show (2 : Nat) ^ 32 = 4294967296 from rfl]
  simp only [Int.natCast_emod, Int.natCast_mul, Int.natCast_pow]; rfl
theorem shr32 (x : BitVec 32) (n : Nat) : val x / 2 ^ n = val (x >>> n) := by
  unfold val; rw [BitVec.toNat_ushiftRight, Nat.shiftRight_eq_div_pow]
  simp only [Int.natCast_ediv, Int.natCast_pow]; rfl
/-- A word turned to the left. -/
def rotl (x : BitVec 32) (n : Nat) : BitVec 32 := x <<< n ||| x >>> (32 - n)

/-! ### Strings as lists of bytes -/
theorem str_append (l m : List UInt8) : (⟨l.toArray⟩ : ByteArray) ++ ⟨m.toArray⟩ = ⟨(l ++ m).toArray⟩ := by
  apply ByteArray.ext; simp
theorem str_eta (s : ByteArray) : (⟨s.data.toList.toArray⟩ : ByteArray) = s := rfl
theorem data_extract (l : List UInt8) (a b : Nat) : ((⟨l.toArray⟩ : ByteArray).extract a b).data.toList = (l.drop a).take (b - a) := by
  rw [Lib.extract_data]
theorem data_append (s t : ByteArray) : (s ++ t).data.toList = s.data.toList ++ t.data.toList := by simp

/-! ### Rows of cells -/
/-- n cells, the i-th holding 'F i'. -/
def row (n : Nat) (F : Nat → Value) : Array Value := ((List.range n).map F).toArray
/-- 'F' with another value at i. -/
def upd {α : Type} (F : Nat → α) (i : Nat) (v : α) : Nat → α := fun j => if j = i then v else F j
theorem row_size (n : Nat) (F : Nat → Value) : (row n F).size = n := by simp [row]
theorem row_get (n : Nat) (F : Nat → Value) (i : Nat) : (row n F)[i]? = if i < n then some (F i) else none := by
  simp only [row, List.getElem?_toArray, List.getElem?_map]
  split
  · rename_i h; rw [List.getElem?_range h]; rfl
  · rename_i h; rw [List.getElem?_eq_none (by simpa using h)]; rfl
theorem row_set (n : Nat) (F : Nat → Value) (i : Nat) (v : Value) : (row n F).setIfInBounds i v = row n (upd F i v) := by
  apply Array.ext_getElem?
  intro j
  rw [Array.getElem?_setIfInBounds, row_get, row_get, row_size]
  unfold upd
  split
  · rename_i h; subst h; split <;> simp
  · rename_i h; rw [if_neg (show ¬ j = i from fun e => h e.symm)]
theorem row_congr {n : Nat} {F G : Nat → Value} (h : ∀ i, i < n → F i = G i) : row n F = row n G := by
  apply Array.ext_getElem?
  intro j
  rw [row_get, row_get]
  split
  · rename_i hj; rw [h j hj]
  · rfl

def row32 (n : Nat) (A : Nat → BitVec 32) : Array Value := row n fun i => .int .u32 (val (A i))
theorem row32_set (n : Nat) (A : Nat → BitVec 32) (i : Nat) (v : BitVec 32) : (row32 n A).setIfInBounds i (.int .u32 (val v)) = row32 n (upd A i v) := by
  unfold row32; rw [row_set]; apply row_congr; intro j _; unfold upd; split <;> rfl

theorem cell_of_row32 {w : World} {b n : Nat} {A : Nat → BitVec 32} {t : TypeId} (h : w.heap[b]? = some (.cells (row32 n A) t (0, 0))) :
    ∀ i, i < n → w.cell? ⟨b, i, none⟩ = some (.int .u32 (val (A i))) := by
  intro i hi
  rw [cell_in, h]; simp [cellIn, row32, row_get, hi]
theorem free_of_heap {w : World} {b : Nat} {c : Array Value} {t : TypeId} (h : w.heap[b]? = some (.cells c t (0, 0))) :
    ∀ i, w.frozen? ⟨b, i, none⟩ = false := by
  intro i; rw [frozen_in, h]; simp [frozenIn]
theorem lt_of_heap {w : World} {b : Nat} {o : Obj} (h : w.heap[b]? = some o) : b < w.heap.size := by
  rcases Nat.lt_or_ge b w.heap.size with h' | h'
  · exact h'
  · rw [Array.getElem?_eq_none h'] at h; cases h
theorem heap_setCell {w : World} {b i : Nat} {c : Array Value} {t : TypeId} {f : Nat × Nat} (h : w.heap[b]? = some (.cells c t f)) (v : Value) :
    (w.setCell ⟨b, i, none⟩ v).heap[b]? = some (.cells (c.setIfInBounds i v) t f) := by
  simp [World.setCell, Array.getElem?_modify, h]
theorem grown_setCell (w : World) (b i : Nat) (v : Value) : w.grownBy (w.setCell ⟨b, i, none⟩ v) (some b) :=
  ⟨rfl, rfl, rfl, by simp [World.setCell], fun k _ hk => Below.heap_setCell _ _ _ _ (fun e => hk (by simpa using e))⟩
theorem grown_ext (w : World) (x : More) (r : Option Nat) : w.grownBy (ext w x) r :=
  ⟨rfl, rfl, rfl, by simp, fun _ h _ => ext_heap h⟩
theorem grown_below {w w' : World} (h : Below w.heap.size w w') (r : Option Nat) : w.grownBy w' r := ⟨h.os, h.tape, h.output, h.size, fun k hk _ => h.block k hk⟩
theorem grown_refl (w : World) (r : Option Nat) : w.grownBy w r := ⟨rfl, rfl, rfl, Nat.le_refl _, fun _ _ _ => rfl⟩
/-- A store into a row of words, behind whatever was called. -/
theorem store_row32 {w : World} {x : More} {b n i : Nat} {A : Nat → BitVec 32} {t : TypeId} {v : BitVec 32} (h : w.heap[b]? = some (.cells (row32 n A) t (0, 0))) :
    ((ext w x).setCell ⟨b, i, none⟩ (.int .u32 (val v))).heap[b]? = some (.cells (row32 n (upd A i v)) t (0, 0)) ∧
    w.grownBy ((ext w x).setCell ⟨b, i, none⟩ (.int .u32 (val v))) (some b) := by
  have hb := lt_of_heap h
  constructor
  · rw [← row32_set]; exact heap_setCell ((ext_heap hb).trans h) _
  · exact (grown_ext w x _).trans (grown_setCell _ _ _ _)
theorem store_row32' {w : World} {b n i : Nat} {A : Nat → BitVec 32} {t : TypeId} {v : BitVec 32} {m : Int} (hm : m = val v) (h : w.heap[b]? = some (.cells (row32 n A) t (0, 0))) :
    (w.setCell ⟨b, i, none⟩ (.int .u32 m)).heap[b]? = some (.cells (row32 n (upd A i v)) t (0, 0)) ∧ w.grownBy (w.setCell ⟨b, i, none⟩ (.int .u32 m)) (some b) := by
  subst hm
  exact ⟨by rw [← row32_set]; exact heap_setCell h _, grown_setCell _ _ _ _⟩
/-- A whole array into a block that has as many cells. -/
theorem wpList_store_row {P : Program} {ops : Array Oper} {rest : List Oper} {o : Oper} {a : Act} {w : World} {Q : Exit → Act → World → Prop} (hgd : o.guard = none) (ty : TypeId) (x y : Operand)
    (ho : o.op = .store ty x y) (g : Nat) (hx : a.eval x = .pointer (some ⟨g, 0, none⟩)) (t : TypeId) (cs cs' : Array Value) (hy : a.eval y = .agg cs')
    (hg : w.heap[g]? = some (.cells cs t (0, 0))) (hi : (P.info? ty).map (·.size) = some cs'.size) (hs : cs.size = cs'.size) (h1 : cs'.all (·.oneCell') = true)
    (h : wpList P ops Q rest (a.put o.dst undef) (w.setRow g cs')) : wpList P ops Q (o :: rest) a w :=
  wpList_plain hgd fun K hK => by
    unfold Oper.wp execOp
    simp only [ho, hx, hy, Instr.storeAt, Instr.sureAddr, Sem.run_bind, Sem.run_pure, Result.andThen_ok]
    rw [run_storeVar_row w g t ty cs cs' hg hi hs h1]
    exact hK _ _ h
theorem row32_one (n : Nat) (A : Nat → BitVec 32) : (row32 n A).all (·.oneCell') = true := by
  rw [Array.all_eq_true]
  intro i hi
  have h : (row32 n A)[i]? = some (row32 n A)[i] := Array.getElem?_eq_getElem hi
  unfold row32 at h
  rw [row_get] at h
  split at h
  · simp only [Option.some.injEq] at h; unfold row32; rw [← h]; rfl
  · cases h
/-- An Errno as an error. -/
abbrev errV (n : Int) : Value := .iface 53 (.int .i64 n)
theorem get_data0 (s : ByteArray) (i : Nat) (h : i < s.size) : s[i] = s.data.toList.getD i 0 := by
  show s.data[i] = _
  have : i < s.data.size := h
  simp only [List.getD_eq_getElem?_getD, Array.getElem?_toList]; rw [Array.getElem?_eq_getElem this]; rfl
end Go.Proofs.YtnkmckdefiblhaaGreatDoor
namespace Go.Proofs.YtnkmckdefiblhaaGreatDoor

def letterB (c : UInt8) : Bool := decide (97 ≤ c.toNat ∧ c.toNat ≤ 122)
def digitB (c : UInt8) : Bool := decide (48 ≤ c.toNat ∧ c.toNat ≤ 57)
/-- A name. -/
def nameB (l : List UInt8) : Bool := !l.isEmpty && decide (l.length ≤ 10) && letterB (l.headD 0) && l.all (fun c => letterB c || digitB c)
def lettersL : List UInt8 := [97, 98, 99, 100, 101, 102, 103, 104, 105, 106, 107, 108, 109, 110, 111, 112, 113, 114, 115, 116, 117, 118, 119, 120, 121, 122]
def digitsL : List UInt8 := [48, 49, 50, 51, 52, 53, 54, 55, 56, 57]
theorem letters_all : (List.range 256).all (fun n => decide (0 ≤ Lib.indexByte lettersL (UInt8.ofNat n)) == letterB (UInt8.ofNat n)) = true := by decide +kernel
theorem cut_all : (List.range 256).all (fun n => (lettersL ++ digitsL).contains (UInt8.ofNat n) == (letterB (UInt8.ofNat n) || digitB (UInt8.ofNat n))) = true := by decide +kernel
theorem letter_is (c : UInt8) : decide (0 ≤ Lib.indexByte lettersL c) = letterB c := by
  have h := List.all_eq_true.1 letters_all c.toNat (List.mem_range.2 c.toNat_lt)
  rw [UInt8.ofNat_toNat] at h
  exact eq_of_beq h
theorem cut_is (c : UInt8) : (lettersL ++ digitsL).contains c = (letterB c || digitB c) := by
  have h := List.all_eq_true.1 cut_all c.toNat (List.mem_range.2 c.toNat_lt)
  rw [UInt8.ofNat_toNat] at h
  exact eq_of_beq h
theorem dropWhile_nil {α : Type} (p : α → Bool) : ∀ l : List α, l.dropWhile p = [] ↔ ∀ x ∈ l, p x = true
  | [] => by simp
  | a :: l => by
    rw [List.dropWhile_cons]
    cases h : p a with
    | false => simp [h]
    | true => simp only [if_true]; rw [dropWhile_nil p l]; simp [h]
theorem trimS_nil_iff (l cs : List UInt8) : Lib.trimS l cs = [] ↔ ∀ x ∈ l, cs.contains x = true := by
  unfold Lib.trimS Lib.trimLeftS
  rw [dropWhile_nil]
  unfold Lib.trimRightS
  constructor
  · intro h x hx
    have hx' : x ∈ l.reverse := List.mem_reverse.2 hx
    rw [← List.takeWhile_append_dropWhile (p := (cs.contains ·)) (l := l.reverse), List.mem_append] at hx'
    rcases hx' with h1 | h1
    · exact (List.all_eq_true.1 List.all_takeWhile) x h1
    · exact h x (List.mem_reverse.2 h1)
  · intro h x hx
    exact h x (List.mem_reverse.1 ((List.dropWhile_suffix _).subset (List.mem_reverse.1 hx)))
theorem trim_is (l : List UInt8) : decide (Lib.trimS l (lettersL ++ digitsL) = []) = l.all (fun c => letterB c || digitB c) := by
  rw [Bool.eq_iff_iff, decide_eq_true_iff, trimS_nil_iff, List.all_eq_true]
  simp only [cut_is]
theorem nameB_size {s : ByteArray} (h : nameB s.data.toList = true) : 1 ≤ s.size ∧ s.size ≤ 10 := by
  unfold nameB at h
  simp only [Bool.and_eq_true, decide_eq_true_eq, Bool.not_eq_true', List.isEmpty_eq_false_iff] at h
  have e : s.data.toList.length = s.size := by rw [Array.length_toList]; rfl
  obtain ⟨⟨⟨h1, h2⟩, _⟩, _⟩ := h
  have := List.length_pos_iff.2 h1
  omega
/-- A name has no blank. -/
theorem nameB_blank {l : List UInt8} (h : nameB l = true) : (32 : UInt8) ∉ l := by
  intro hm
  unfold nameB at h
  simp only [Bool.and_eq_true, List.all_eq_true] at h
  have := h.2 32 hm
  revert this; decide
end Go.Proofs.YtnkmckdefiblhaaGreatDoor
namespace Go.Proofs.YtnkmckdefiblhaaGreatDoor

/-- An event. -/
structure Ev where
  kind : Int
  subject : ByteArray
  table : ByteArray
  row : ByteArray
  value : ByteArray
def txt (s : ByteArray) : List UInt8 := s.data.toList
def mkT (l : List UInt8) : ByteArray := ⟨l.toArray⟩
theorem txt_mkT (l : List UInt8) : txt (mkT l) = l := rfl
theorem mkT_txt (s : ByteArray) : mkT (txt s) = s := rfl
theorem txt_inj {s t : ByteArray} (h : txt s = txt t) : s = t := by rw [← mkT_txt s, h, mkT_txt]

theorem occ_one (l : List UInt8) (c : UInt8) (i : Nat) : Lib.occAt l [c] i = true ↔ l[i]? = some c := by
  constructor
  · intro h; exact Lib.occAt_head rfl h
  · intro h
    obtain ⟨hi, hc⟩ := List.getElem?_eq_some_iff.1 h
    rw [Lib.occAt_iff_take l [c] i (by simp; omega)]
    rw [beq_iff_eq]
    rw [List.drop_eq_getElem_cons hi, hc]
    simp
theorem split_blank (a b : List UInt8) (k : Nat) (c : UInt8) (h : c ∉ a) : Lib.splitK [c] 0 (k + 1) (a ++ c :: b) = a :: Lib.splitK [c] 0 k b := by
  have hi : Lib.index (a ++ c :: b) [c] = a.length := by
    refine Lib.index_first (i := a.length) (by simp) ((occ_one _ _ _).2 (by simp)) ?_
    intro j hj
    cases h2 : Lib.occAt (a ++ c :: b) [c] j with
    | false => rfl
    | true =>
      have := (occ_one _ _ _).1 h2
      rw [List.getElem?_append_left hj] at this
      exact absurd (List.mem_of_getElem? this) h
  rw [Lib.splitK, hi, if_neg (by rw [beq_iff_eq]; omega)]
  simp
theorem split_whole (a : List UInt8) (k : Nat) (c : UInt8) (h : c ∉ a) : Lib.splitK [c] 0 k a = [a] := by
  cases k with
  | zero => rfl
  | succ k =>
    have hi : Lib.index a [c] = -1 := by
      refine Lib.index_none ?_
      intro j hj
      cases h2 : Lib.occAt a [c] j with
      | false => rfl
      | true => exact absurd (List.mem_of_getElem? ((occ_one _ _ _).1 h2)) h
    rw [Lib.splitK, hi]; rfl
/-- A text is whole or has a first blank. -/
theorem blank_cases (l : List UInt8) (c : UInt8) : c ∉ l ∨ ∃ a b, c ∉ a ∧ l = a ++ c :: b := by
  induction l with
  | nil => exact .inl (by simp)
  | cons x l ih =>
    by_cases hx : x = c
    · subst hx; exact .inr ⟨[], l, by simp, rfl⟩
    · rcases ih with h | ⟨a, b, h1, rfl⟩
      · exact .inl (by simp [h, Ne.symm hx])
      · exact .inr ⟨x :: a, b, by simp [h1, Ne.symm hx], rfl⟩
/-- The pieces, with the sign between them. -/
def joinL (c : UInt8) : List (List UInt8) → List UInt8
  | [] => []
  | [a] => a
  | a :: b :: r => a ++ c :: joinL c (b :: r)
theorem split_ne (c : UInt8) (k : Nat) (l : List UInt8) : Lib.splitK [c] 0 k l ≠ [] := by
  cases k with
  | zero => simp [Lib.splitK]
  | succ k => unfold Lib.splitK; split <;> simp
theorem join_split (c : UInt8) : ∀ (k : Nat) (l : List UInt8), joinL c (Lib.splitK [c] 0 k l) = l
  | 0, _ => rfl
  | k + 1, l => by
    rcases blank_cases l c with h | ⟨a, b, h, rfl⟩
    · rw [split_whole _ _ _ h]; rfl
    · rw [split_blank _ _ _ _ h]
      have ih := join_split c k b
      cases hs : Lib.splitK [c] 0 k b with
      | nil => exact absurd hs (split_ne c k b)
      | cons x r => rw [hs] at ih; show a ++ c :: joinL c (x :: r) = _; rw [ih]

def wordL (k : Int) : List UInt8 := if k = 1 then [112, 117, 116] else if k = 2 then [100, 101, 108] else if k = 3 then [103, 111, 110, 101] else []
/-- What an event may be; of the value, 'ok' says. -/
def rightE (ok : List UInt8 → Bool) (e : Ev) : Bool :=
  nameB (txt e.subject) &&
  (if e.kind = 1 then nameB (txt e.table) && nameB (txt e.row) && decide (e.value.size ≤ 20) && ok (txt e.value)
   else if e.kind = 2 then nameB (txt e.table) && nameB (txt e.row) && decide (e.value.size = 0)
   else if e.kind = 3 then decide (e.table.size = 0) && decide (e.row.size = 0) && decide (e.value.size = 0) else false)
/-- An event's text. -/
def printL (e : Ev) : List UInt8 :=
  wordL e.kind ++ 32 :: txt e.subject ++ (if e.kind = 1 then 32 :: txt e.table ++ 32 :: txt e.row ++ 32 :: txt e.value else if e.kind = 2 then 32 :: txt e.table ++ 32 :: txt e.row else [])
def pieces (s : List UInt8) : List (List UInt8) := Lib.splitK [32] 0 4 s
/-- Which word it is. -/
def kindOf (w : List UInt8) : Int := if w = [112, 117, 116] then 1 else if w = [100, 101, 108] then 2 else if w = [103, 111, 110, 101] then 3 else 0
def manyOf (k : Int) : Nat := if k = 1 then 5 else if k = 2 then 4 else if k = 3 then 2 else 0
/-- What the text's pieces say. -/
def readL (ps : List (List UInt8)) : Ev :=
  let k := kindOf (ps.getD 0 [])
  ⟨k, mkT (ps.getD 1 []), if k = 1 ∨ k = 2 then mkT (ps.getD 2 []) else mkT [], if k = 1 ∨ k = 2 then mkT (ps.getD 3 []) else mkT [], if k = 1 then mkT (ps.getD 4 []) else mkT []⟩
def parses (ok : List UInt8 → Bool) (s : List UInt8) : Prop := (pieces s).length = manyOf (kindOf ((pieces s).getD 0 [])) ∧ rightE ok (readL (pieces s)) = true

theorem kind_cases {ok : List UInt8 → Bool} {e : Ev} (h : rightE ok e = true) : e.kind = 1 ∨ e.kind = 2 ∨ e.kind = 3 := by
  unfold rightE at h
  rw [Bool.and_eq_true] at h
  by_cases h1 : e.kind = 1
  · exact .inl h1
  · by_cases h2 : e.kind = 2
    · exact .inr (.inl h2)
    · by_cases h3 : e.kind = 3
      · exact .inr (.inr h3)
      · rw [if_neg h1, if_neg h2, if_neg h3] at h; simp at h
theorem blank_word (k : Int) : (32 : UInt8) ∉ wordL k := by unfold wordL; split <;> (try split) <;> (try split) <;> decide
theorem empty_of_size {s : ByteArray} (h : s.size = 0) : s = mkT [] := by
  apply txt_inj
  have e : (txt s).length = s.size := by unfold txt; rw [Array.length_toList]; rfl
  exact List.length_eq_zero_iff.1 (e.trans h)
/-- What is written is read. -/
theorem read_print {ok : List UInt8 → Bool} {e : Ev} (h : rightE ok e = true) : parses ok (printL e) ∧ readL (pieces (printL e)) = e := by
  have hR := h
  have hk := kind_cases h
  obtain ⟨k, s, t, r, v⟩ := e
  unfold rightE at h
  rw [Bool.and_eq_true] at h
  obtain ⟨hs, h⟩ := h
  have bs := nameB_blank hs
  dsimp only at *
  rcases hk with rfl | rfl | rfl
  · rw [if_pos rfl] at h
    simp only [Bool.and_eq_true] at h
    obtain ⟨⟨⟨ht, hr⟩, hv⟩, ho⟩ := h
    have bt := nameB_blank ht
    have br := nameB_blank hr
    have hp : pieces (printL ⟨1, s, t, r, v⟩) = [wordL 1, txt s, txt t, txt r, txt v] := by
      unfold pieces printL
      rw [if_pos rfl]
      simp only [List.append_assoc, List.cons_append]
      rw [split_blank _ _ _ _ (blank_word 1), split_blank _ _ _ _ bs, split_blank _ _ _ _ bt, split_blank _ _ _ _ br]
      rfl
    have e : readL (pieces (printL ⟨1, s, t, r, v⟩)) = ⟨1, s, t, r, v⟩ := by rw [hp]; rfl
    refine ⟨⟨?_, by rw [e]; exact hR⟩, e⟩
    rw [hp]; rfl
  · rw [if_neg (by decide), if_pos rfl] at h
    simp only [Bool.and_eq_true, decide_eq_true_eq] at h
    obtain ⟨⟨ht, hr⟩, hv⟩ := h
    obtain rfl := empty_of_size hv
    have bt := nameB_blank ht
    have br := nameB_blank hr
    have hp : pieces (printL ⟨2, s, t, r, mkT []⟩) = [wordL 2, txt s, txt t, txt r] := by
      unfold pieces printL
      rw [if_neg (show ¬ ((2 : Int) = 1) by decide), if_pos rfl]
      simp only [List.append_assoc, List.cons_append]
      rw [split_blank _ _ _ _ (blank_word 2), split_blank _ _ _ _ bs, split_blank _ _ _ _ bt, split_whole _ _ _ br]
    have e : readL (pieces (printL ⟨2, s, t, r, mkT []⟩)) = ⟨2, s, t, r, mkT []⟩ := by rw [hp]; rfl
    refine ⟨⟨?_, by rw [e]; exact hR⟩, e⟩
    rw [hp]; rfl
  · rw [if_neg (by decide), if_neg (by decide), if_pos rfl] at h
    simp only [Bool.and_eq_true, decide_eq_true_eq] at h
    obtain ⟨⟨ht, hr⟩, hv⟩ := h
    obtain rfl := empty_of_size hv
    obtain rfl := empty_of_size ht
    obtain rfl := empty_of_size hr
    have hp : pieces (printL ⟨3, s, mkT [], mkT [], mkT []⟩) = [wordL 3, txt s] := by
      unfold pieces printL
      rw [if_neg (show ¬ ((3 : Int) = 1) by decide), if_neg (show ¬ ((3 : Int) = 2) by decide), List.append_nil]
      rw [split_blank _ _ _ _ (blank_word 3), split_whole _ _ _ bs]
    have e : readL (pieces (printL ⟨3, s, mkT [], mkT [], mkT []⟩)) = ⟨3, s, mkT [], mkT [], mkT []⟩ := by rw [hp]; rfl
    refine ⟨⟨?_, by rw [e]; exact hR⟩, e⟩
    rw [hp]; rfl
theorem word_of_kind {w : List UInt8} (h : kindOf w ≠ 0) : wordL (kindOf w) = w := by
  unfold kindOf at h ⊢
  by_cases h1 : w = [112, 117, 116]
  · subst h1; rfl
  · by_cases h2 : w = [100, 101, 108]
    · subst h2; rfl
    · by_cases h3 : w = [103, 111, 110, 101]
      · subst h3; rfl
      · rw [if_neg h1, if_neg h2, if_neg h3] at h; exact absurd rfl h
/-- What is read is written. -/
theorem print_read {ok : List UInt8 → Bool} {s : List UInt8} (h : parses ok s) : printL (readL (pieces s)) = s := by
  obtain ⟨hl, hr⟩ := h
  have hj : joinL 32 (pieces s) = s := join_split 32 4 s
  have hk : kindOf ((pieces s).getD 0 []) = 1 ∨ kindOf ((pieces s).getD 0 []) = 2 ∨ kindOf ((pieces s).getD 0 []) = 3 := kind_cases hr
  have hw := word_of_kind (w := (pieces s).getD 0 []) (by omega)
  generalize pieces s = ps at *
  have e1 : (readL ps).kind = kindOf (ps.getD 0 []) := rfl
  unfold printL
  rw [e1]
  rcases hk with hk | hk | hk
  · rw [hk] at hl hw
    match ps, hl with
    | [a, b, c, d, x], _ =>
      have ha : wordL 1 = a := hw
      rw [hk, if_pos rfl, ha, ← hj]
      have hka : kindOf a = 1 := hk
      simp [readL, joinL, hka, txt_mkT]
  · rw [hk] at hl hw
    match ps, hl with
    | [a, b, c, d], _ =>
      have ha : wordL 2 = a := hw
      rw [hk, if_neg (by decide), if_pos rfl, ha, ← hj]
      have hka : kindOf a = 2 := hk
      simp [readL, joinL, hka, txt_mkT]
  · rw [hk] at hl hw
    match ps, hl with
    | [a, b], _ =>
      have ha : wordL 3 = a := hw
      rw [hk, if_neg (by decide), if_neg (by decide), ha, ← hj]
      simp [readL, joinL, txt_mkT]
end Go.Proofs.YtnkmckdefiblhaaGreatDoor
namespace Go.Proofs.YtnkmckdefiblhaaGreatDoor

/-! ### The order of texts -/
def cmpL (a b : List UInt8) : Int := if Op.bytesLess a b = true then -1 else if a = b then 0 else 1
theorem bl_irrefl : ∀ a : List UInt8, Op.bytesLess a a = false
  | [] => rfl
  | x :: a => by simp [Op.bytesLess, bl_irrefl a]
theorem bl_trans : ∀ {a b c : List UInt8}, Op.bytesLess a b = true → Op.bytesLess b c = true → Op.bytesLess a c = true
  | [], [], _, h, _ => by simp [Op.bytesLess] at h
  | [], _ :: _, [], _, h => by simp [Op.bytesLess] at h
  | [], _ :: _, _ :: _, _, _ => by simp [Op.bytesLess]
  | _ :: _, [], _, h, _ => by simp [Op.bytesLess] at h
  | _ :: _, _ :: _, [], _, h => by simp [Op.bytesLess] at h
  | x :: a, y :: b, z :: c, h1, h2 => by
    simp only [Op.bytesLess, Bool.or_eq_true, Bool.and_eq_true, decide_eq_true_eq, beq_iff_eq] at h1 h2 ⊢
    rcases h1 with h1 | ⟨rfl, h1⟩
    · rcases h2 with h2 | ⟨rfl, h2⟩
      · exact .inl (UInt8.lt_trans h1 h2)
      · exact .inl h1
    · rcases h2 with h2 | ⟨rfl, h2⟩
      · exact .inl h2
      · exact .inr ⟨rfl, bl_trans h1 h2⟩
theorem bl_total : ∀ {a b : List UInt8}, Op.bytesLess a b = false → Op.bytesLess b a = false → a = b
  | [], [], _, _ => rfl
  | [], _ :: _, h, _ => by simp [Op.bytesLess] at h
  | _ :: _, [], _, h => by simp [Op.bytesLess] at h
  | x :: a, y :: b, h1, h2 => by
    simp only [Op.bytesLess, Bool.or_eq_false_iff, Bool.and_eq_false_iff, decide_eq_false_iff_not, beq_eq_false_iff_ne, ne_eq] at h1 h2
    have e : x = y := by
      apply UInt8.le_antisymm
      · exact UInt8.not_lt.1 h2.1
      · exact UInt8.not_lt.1 h1.1
    subst e
    have h1' : Op.bytesLess a b = false := h1.2.resolve_left (fun h => h rfl)
    have h2' : Op.bytesLess b a = false := h2.2.resolve_left (fun h => h rfl)
    rw [bl_total h1' h2']
theorem cmpL_zero {a b : List UInt8} : cmpL a b = 0 ↔ a = b := by
  unfold cmpL
  split
  · rename_i h
    constructor
    · intro h'; simp at h'
    · intro h'; subst h'; rw [bl_irrefl] at h; simp at h
  · split
    · rename_i h; simp [h]
    · rename_i h; simp [h]
theorem cmpL_neg {a b : List UInt8} : cmpL a b < 0 ↔ Op.bytesLess a b = true := by
  unfold cmpL
  split
  · rename_i h; simp [h]
  · rename_i h
    split
    · simp [h]
    · simp [h]

/-! ### Rows -/
structure Cell where
  table : ByteArray
  row : ByteArray
  subject : ByteArray
  value : ByteArray
instance : Inhabited Cell := ⟨⟨⟨#[]⟩, ⟨#[]⟩, ⟨#[]⟩, ⟨#[]⟩⟩⟩
def zeroC : Cell := ⟨⟨#[]⟩, ⟨#[]⟩, ⟨#[]⟩, ⟨#[]⟩⟩
/-- Which row it is. -/
def ck (c : Cell) : List UInt8 × List UInt8 := (txt c.table, txt c.row)
theorem cell_ext {c d : Cell} (h1 : ck c = ck d) (h2 : txt c.subject = txt d.subject) (h3 : txt c.value = txt d.value) : c = d := by
  obtain ⟨a, b, s, v⟩ := c
  obtain ⟨a', b', s', v'⟩ := d
  simp only [ck, Prod.mk.injEq] at h1 h2 h3
  rw [txt_inj h1.1, txt_inj h1.2, txt_inj h2, txt_inj h3]
def kcmp (a b : List UInt8 × List UInt8) : Int := if cmpL a.1 b.1 = 0 then cmpL a.2 b.2 else cmpL a.1 b.1
def ccmp (a b : Cell) : Int := kcmp (ck a) (ck b)
def kless (a b : List UInt8 × List UInt8) : Bool := Op.bytesLess a.1 b.1 || (decide (a.1 = b.1) && Op.bytesLess a.2 b.2)
theorem kcmp_neg {a b : List UInt8 × List UInt8} : kcmp a b < 0 ↔ kless a b = true := by
  unfold kcmp kless
  by_cases h : a.1 = b.1
  · rw [if_pos (cmpL_zero.2 h), cmpL_neg, h, bl_irrefl]; simp
  · rw [if_neg (fun e => h (cmpL_zero.1 e)), cmpL_neg]; simp [h]
theorem kless_irrefl (a : List UInt8 × List UInt8) : kless a a = false := by simp [kless, bl_irrefl]
theorem kless_trans {a b c : List UInt8 × List UInt8} (h1 : kless a b = true) (h2 : kless b c = true) : kless a c = true := by
  unfold kless at *
  simp only [Bool.or_eq_true, Bool.and_eq_true, decide_eq_true_eq] at *
  rcases h1 with h1 | ⟨e1, h1⟩
  · rcases h2 with h2 | ⟨e2, h2⟩
    · exact .inl (bl_trans h1 h2)
    · exact .inl (e2 ▸ h1)
  · rcases h2 with h2 | ⟨e2, h2⟩
    · exact .inl (e1 ▸ h2)
    · exact .inr ⟨e1.trans e2, bl_trans h1 h2⟩
theorem kless_total {a b : List UInt8 × List UInt8} (h1 : kless a b = false) (h2 : kless b a = false) : a = b := by
  unfold kless at *
  simp only [Bool.or_eq_false_iff, Bool.and_eq_false_iff, decide_eq_false_iff_not] at *
  have e := bl_total h1.1 h2.1
  exact Prod.ext e (bl_total (h1.2.resolve_left (fun h => h e)) (h2.2.resolve_left (fun h => h e.symm)))

/-- Which row an event is about. -/
def ek (e : Ev) : List UInt8 × List UInt8 := (txt e.table, txt e.row)
def cellE (e : Ev) : Cell := ⟨e.table, e.row, e.subject, e.value⟩
def findT (k : List UInt8 × List UInt8) (T : List Cell) : Option Cell := T.find? fun c => decide (ck c = k)
def delT (k : List UInt8 × List UInt8) (T : List Cell) : List Cell := T.filter fun c => !decide (ck c = k)
def putT (c : Cell) (T : List Cell) : List Cell := c :: delT (ck c) T
def goneT (s : List UInt8) (T : List Cell) : List Cell := T.filter fun c => !decide (txt c.subject = s)
def stepT (e : Ev) (T : List Cell) : List Cell :=
  if e.kind = 1 then putT (cellE e) T
  else if e.kind = 2 then (if txt ((findT (ek e) T).getD zeroC).subject = txt e.subject then delT (ek e) T else T)
  else goneT (txt e.subject) T
def applyT (ok : List UInt8 → Bool) (e : Ev) (T : List Cell) : List Cell := if rightE ok e = true then stepT e T else T
/-- No row twice. -/
def Once (T : List Cell) : Prop := T.Pairwise fun c d => ck c ≠ ck d
theorem Once.filter {T : List Cell} (h : Once T) (p : Cell → Bool) : Once (T.filter p) := h.sublist List.filter_sublist
theorem Once.put {T : List Cell} (h : Once T) (c : Cell) : Once (putT c T) := by
  refine List.Pairwise.cons ?_ (h.filter _)
  intro d hd
  simp only [delT, List.mem_filter, Bool.not_eq_true', decide_eq_false_iff_not] at hd
  exact fun e => hd.2 e.symm
theorem Once.step {T : List Cell} (h : Once T) (e : Ev) : Once (stepT e T) := by
  unfold stepT
  split
  · exact h.put _
  · split
    · split
      · exact h.filter _
      · exact h
    · exact h.filter _
theorem Once.apply {T : List Cell} (h : Once T) (ok : List UInt8 → Bool) (e : Ev) : Once (applyT ok e T) := by
  unfold applyT
  split
  · exact h.step e
  · exact h
theorem once_eq {T : List Cell} (h : Once T) {c d : Cell} (hc : c ∈ T) (hd : d ∈ T) (e : ck c = ck d) : c = d := by
  induction T with
  | nil => cases hc
  | cons a T ih =>
    obtain ⟨h1, h2⟩ := List.pairwise_cons.1 h
    rcases List.mem_cons.1 hc with rfl | hc'
    · rcases List.mem_cons.1 hd with rfl | hd'
      · rfl
      · exact absurd e (h1 d hd')
    · rcases List.mem_cons.1 hd with rfl | hd'
      · exact absurd e.symm (h1 c hc')
      · exact ih h2 hc' hd'
theorem find_some {T : List Cell} (h : Once T) {c : Cell} (hc : c ∈ T) : findT (ck c) T = some c := by
  unfold findT
  cases hf : T.find? fun d => decide (ck d = ck c) with
  | none =>
    have := List.find?_eq_none.1 hf c hc
    simp at this
  | some d =>
    have h1 := List.find?_some hf
    rw [decide_eq_true_eq] at h1
    rw [once_eq h (List.mem_of_find?_eq_some hf) hc h1]
theorem find_mem {k : List UInt8 × List UInt8} {T : List Cell} {c : Cell} (h : findT k T = some c) : c ∈ T ∧ ck c = k :=
  ⟨List.mem_of_find?_eq_some h, by have := List.find?_some h; simpa using this⟩
theorem find_none {k : List UInt8 × List UInt8} {T : List Cell} (h : findT k T = none) : ∀ c ∈ T, ck c ≠ k := fun c hc => by
  have := List.find?_eq_none.1 h c hc
  simpa using this
end Go.Proofs.YtnkmckdefiblhaaGreatDoor
