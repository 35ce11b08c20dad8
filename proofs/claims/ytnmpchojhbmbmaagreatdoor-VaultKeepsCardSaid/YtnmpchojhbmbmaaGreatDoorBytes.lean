/- Byte slices that a call makes itself: append, and the string of them. -/
import Derived.Test.YtnmpchojhbmbmaaGreatDoorProg
import Derived.Test.YtnmpchojhbmbmaaGreatDoorWords
namespace Go.Proofs.YtnmpchojhbmbmaaGreatDoor
open Go.RowKit

/-- Bytes as cells. -/
def B8 (l : List UInt8) : List Value := l.map fun b => .int .u8 (b.toNat : Int)
theorem B8_append (l m : List UInt8) : B8 (l ++ m) = B8 l ++ B8 m := by simp [B8]
theorem B8_length (l : List UInt8) : (B8 l).length = l.length := by simp [B8]
theorem B8_get {l : List UInt8} {j : Nat} {u : Value} (h : (B8 l)[j]? = some u) : ∃ b, l[j]? = some b ∧ u = .int .u8 (b.toNat : Int) := by
  simp only [B8, List.getElem?_map, Option.map_eq_some_iff] at h
  obtain ⟨b, h1, h2⟩ := h
  exact ⟨b, h1, h2.symm⟩
theorem B8_one (l : List UInt8) : ∀ u ∈ B8 l, u.oneCell' = true := by
  intro u hu
  simp only [B8, List.mem_map] at hu
  obtain ⟨b, _, rfl⟩ := hu
  rfl
theorem info8 : (Tryz.prog.info? 5).map (fun i => (i.zero, i.size, i.bytes)) = some (some (.int .u8 0), 1, 1) := by kernel_rfl
/-- The slice 'v' is the call's own (its blocks lie from 'base' on), and holds the bytes 'l'. -/
def ownsB (w : World) (base : Nat) (v : Value) (l : List UInt8) : Prop := w.ownsRow base 5 1 v l.length (B8 l)
theorem ownsB_nil (w : World) (base : Nat) : ownsB w base (.slice none 0 0) [] := World.ownsRow_nil _ _ _ _
theorem ownsB_ext {w : World} {base : Nat} {v : Value} {l : List UInt8} (h : ownsB w base v l) (x : More) : ownsB (ext w x) base v l :=
  World.ownsRow.kept h (grown_ext w x none) (by cases v.ownBlock <;> simp)
theorem ownsB_kept {w w' : World} {base : Nat} {v : Value} {l : List UInt8} {r : Nat} (h : ownsB w base v l) (hg : w.grownBy w' (some r)) (hr : r < base) : ownsB w' base v l := by
  refine World.ownsRow.kept h hg ?_
  obtain ⟨_, ⟨rfl, _⟩ | ⟨g, cap, cur, rfl, hb, _⟩⟩ := h
  · exact .inl rfl
  · right; simp only [Value.ownBlock]; intro e; injection e with e; omega

theorem ownsB_base {w : World} {base : Nat} {v : Value} {l : List UInt8} (h : ownsB w base v l) : ∀ g, v.ownBlock = some g → base ≤ g := by
  obtain ⟨_, ⟨rfl, _⟩ | ⟨g, cap, cur, rfl, hb, _⟩⟩ := h
  · intro g hg; simp [Value.ownBlock] at hg
  · intro g' hg; simp only [Value.ownBlock, Option.some.injEq] at hg; omega
/-- What else was there, behind an append. -/
theorem kept_owned {w w' : World} {base : Nat} {v : Value} {l : List UInt8} {k : Nat} {ob : Obj} (h : ownsB w base v l) (hg : w.grownBy w' v.ownBlock) (hk : w.heap[k]? = some ob) (hlt : k < base) : w'.heap[k]? = some ob :=
  (hg.block k (lt_of_heap hk) (fun e => by have := ownsB_base h k e.symm; omega)).trans hk

/-! ### '[]byte(s)': a row of bytes with something behind it -/
def rowB (xs : List UInt8) (sp : Array Value) : Array Value := (B8 xs).toArray ++ sp
theorem rowB_size (xs : List UInt8) (sp : Array Value) : (rowB xs sp).size = xs.length + sp.size := by simp [rowB, B8_length]
theorem rowB_get {xs : List UInt8} {sp : Array Value} {i : Nat} (h : i < xs.length) : (rowB xs sp)[i]? = some (.int .u8 (xs[i].toNat : Int)) := by
  unfold rowB
  rw [Array.getElem?_append_left (by simpa [B8_length] using h), List.getElem?_toArray]
  simp [B8, List.getElem?_eq_getElem h]
theorem rowB_set {xs : List UInt8} {sp : Array Value} {i : Nat} (h : i < xs.length) (b : UInt8) : (rowB xs sp).setIfInBounds i (.int .u8 (b.toNat : Int)) = rowB (xs.set i b) sp := by
  unfold rowB
  rw [Array.setIfInBounds_append_left (by simpa [B8_length] using h)]
  congr 1
  simp [B8, List.map_set]
theorem bytesRow_rowB (s : ByteArray) (cap : Nat) : ∃ sp, bytesRow s cap = rowB s.data.toList sp := by
  refine ⟨Array.replicate (cap - s.size) (.int .u8 0), ?_⟩
  unfold bytesRow rowB
  congr 1
  rw [← Array.toList_inj]; simp [B8]
theorem cell_of_rowB {w : World} {b : Nat} {xs : List UInt8} {sp : Array Value} {t : TypeId} {f : Nat × Nat} (h : w.heap[b]? = some (.cells (rowB xs sp) t f)) (i : Nat) (hi : i < xs.length) :
    w.cell? ⟨b, i, none⟩ = some (.int .u8 (xs[i].toNat : Int)) := by
  rw [cell_in, h]; simp [cellIn, rowB_get hi]
theorem free_of_rowB {w : World} {b : Nat} {xs : List UInt8} {sp : Array Value} {t : TypeId} {m : Nat} (h : w.heap[b]? = some (.cells (rowB xs sp) t (m, m + 1))) (hm : xs.length ≤ m) (i : Nat) (hi : i < xs.length) :
    w.frozen? ⟨b, i, none⟩ = false := by
  rw [frozen_in, h]; simp [frozenIn]; omega
theorem store_rowB {w : World} {x : More} {b i : Nat} {xs : List UInt8} {sp : Array Value} {t : TypeId} {f : Nat × Nat} {v : UInt8} (h : w.heap[b]? = some (.cells (rowB xs sp) t f)) (hi : i < xs.length) :
    ((ext w x).setCell ⟨b, i, none⟩ (.int .u8 (v.toNat : Int))).heap[b]? = some (.cells (rowB (xs.set i v) sp) t f) ∧ w.grownBy ((ext w x).setCell ⟨b, i, none⟩ (.int .u8 (v.toNat : Int))) (some b) := by
  have hb := lt_of_heap h
  constructor
  · rw [← rowB_set hi]; exact heap_setCell ((ext_heap hb).trans h) _
  · exact (grown_ext w x _).trans (grown_setCell _ _ _ _)
theorem string_of_rowB {w : World} {b cap : Nat} {xs : List UInt8} {sp : Array Value} {t : TypeId} {f : Nat × Nat} (h : w.heap[b]? = some (.cells (rowB xs sp) t f)) :
    (convert 92 9 (.slice (some ⟨b, 0, none⟩) xs.length cap)).run Tryz.prog w = .ok (.string ⟨xs.toArray⟩) w := by
  refine run_convert_bytes_back w 92 9 5 ⟨b, 0, none⟩ cap xs Tryz.underlying92 Tryz.underlying5 Tryz.underlying9 ?_
  intro j hj
  have hadd : (⟨b, 0, none⟩ : Addr).add j = ⟨b, j, none⟩ := by unfold Addr.add; split <;> simp_all
  rw [hadd, cell_of_rowB h j hj]
/-- '[]byte(s)' -/
theorem bytes_of_string (w : World) (s : ByteArray) : ∃ sp, (convert 9 92 (.string s)).run Tryz.prog w =
    .ok (.slice (some ⟨w.heap.size, 0, none⟩) s.size (grownCap w s.size 0 5)) (w.drew.alloc (.cells (rowB s.data.toList sp) 5 ((rowB s.data.toList sp).size, (rowB s.data.toList sp).size + 1))) := by
  obtain ⟨sp, h⟩ := bytesRow_rowB s (grownCap w s.size 0 5)
  refine ⟨sp, ?_⟩
  rw [← h]
  exact run_bytes_of_string w 9 92 5 s Tryz.underlying9 Tryz.underlying92 Tryz.underlying5

section
variable {ops : Array Oper} {rest : List Oper} {o : Oper} {a : Act} {w : World} {Q : Exit → Act → World → Prop}
/-- 'append(v, b0, b1, ..)': bytes laid in a block of their own, the newest. -/
theorem append_bytes (news : List UInt8) (base : Nat) (v : Value) (l : List UInt8) (s x : Operand) (cs : Array Value)
    (ho : o.op = .call { callee := .builtin .append, args := #[s, x], argTypes := #[92, 92] }) (hgd : o.guard = none) (hs : a.eval s = v) (c : Nat)
    (hx : a.eval x = .slice (some ⟨w.heap.size, 0, none⟩) news.length c) (hcs : cs = (B8 news).toArray) (hown : ownsB w base v l) (hlen : l.length + news.length ≤ 1099511627776) (hbase : base ≤ w.heap.size)
    (h : ∀ v' w', ownsB w' base v' (l ++ news) → w.grownBy w' v.ownBlock → wpList Tryz.prog ops Q rest (a.put o.dst v') w') : wpList Tryz.prog ops Q (o :: rest) a (w.alloc (.cells cs 5)) := by
  subst hcs
  obtain ⟨i0, hi, hz0, hz1, hz2⟩ := info_parts info8
  refine wpList_append_own _ hgd s x 92 ho base 5 i0 (.int .u8 0) 1 1 Tryz.underlying92 hi hz0 hz1 hz2 rfl (by decide) v l.length (B8 l) hs (World.ownsRow.alloc hown _)
    ⟨w.heap.size, 0, none⟩ news.length c (B8 news) hx (by rw [B8_length]; omega) ?_ (B8_one news) (by unfold maxLen; omega) (by omega) (by simp; omega) ?_
  · intro j u hj
    have hadd : (⟨w.heap.size, 0, none⟩ : Addr).add j = ⟨w.heap.size, j, none⟩ := by unfold Addr.add; split <;> simp_all
    rw [hadd, World.cell?_alloc_new, List.getElem?_toArray]
    exact hj
  · intro v' w' h1 h2 _
    exact h v' w' (by unfold ownsB; rw [B8_append, List.length_append]; exact h1) ((World.grownBy_alloc w _ _).trans h2)

/-- 'string(v)' -/
theorem string_of_owned {base : Nat} {v : Value} {l : List UInt8} (h : ownsB w base v l) : (convert 92 9 v).run Tryz.prog w = .ok (.string ⟨l.toArray⟩) w := by
  obtain ⟨hl, ⟨rfl, h0⟩ | ⟨g, cap, cur, rfl, hb, hh, hn, hc, hsz, hx⟩⟩ := h
  · have : l = [] := List.length_eq_zero_iff.1 h0
    subst this
    exact run_convert_bytes_nil w 92 5 Tryz.underlying92 Tryz.underlying5 0 0 9 Tryz.underlying9
  · refine run_convert_bytes_back w 92 9 5 ⟨g, 0, none⟩ cap l Tryz.underlying92 Tryz.underlying5 Tryz.underlying9 ?_
    intro j hj
    have hadd : (⟨g, 0, none⟩ : Addr).add j = ⟨g, j, none⟩ := by unfold Addr.add; split <;> simp_all
    rw [hadd, cell_in, hh]
    have h1 : (cur.toList.take (l.length * 1))[j]? = (B8 l)[j]? := by rw [hx]
    rw [List.getElem?_take_of_lt (by omega)] at h1
    simp only [B8, List.getElem?_map, List.getElem?_eq_getElem hj, Option.map_some, Array.getElem?_toList] at h1
    simp [cellIn, h1]
end
end Go.Proofs.YtnmpchojhbmbmaaGreatDoor
