/- Slices of whole numbers that a call makes itself: append, the elements. -/
import Derived.Test.YtcbcknfhblamfaaGreatDoorWords
namespace Go.Proofs.YtcbcknfhblamfaaGreatDoor
open Go.RowKit

/-- Numbers as cells. -/
def numsV (K : IntKind) (l : List Nat) : List Value := l.map fun n => .int K (n : Nat)
theorem numsV_append (K : IntKind) (l m : List Nat) : numsV K (l ++ m) = numsV K l ++ numsV K m := by simp [numsV]
theorem numsV_length (K : IntKind) (l : List Nat) : (numsV K l).length = l.length := by simp [numsV]
theorem numsV_one (K : IntKind) (l : List Nat) : ∀ u ∈ numsV K l, u.oneCell' = true := by
  intro u hu
  simp only [numsV, List.mem_map] at hu
  obtain ⟨b, _, rfl⟩ := hu
  rfl
/-- The slice 'v', the call's own (its block lies from 'base' on), holds the numbers 'l'. -/
def ownsN (w : World) (base : Nat) (E : TypeId) (K : IntKind) (v : Value) (l : List Nat) : Prop := w.ownsRow base E 1 v l.length (numsV K l)
theorem ownsN_nil (w : World) (base : Nat) (E : TypeId) (K : IntKind) : ownsN w base E K (.slice none 0 0) [] := World.ownsRow_nil _ _ _ _
theorem ownsN_form {w : World} {base : Nat} {E : TypeId} {K : IntKind} {v : Value} {l : List Nat} (h : ownsN w base E K v l) :
    (v = .slice none 0 0 ∧ l = []) ∨ ∃ g cap, v = .slice (some ⟨g, 0, none⟩) l.length cap ∧ base ≤ g ∧ g < w.heap.size ∧ l.length ≤ cap ∧ cap ≤ maxLen ∧ ∀ i (hi : i < l.length), w.cell? ⟨g, i, none⟩ = some (.int K (l[i] : Nat)) := by
  obtain ⟨hl, ⟨rfl, h0⟩ | ⟨g, cap, cur, rfl, hb, hh, hn, hc, hsz, hx⟩⟩ := h
  · exact .inl ⟨rfl, List.length_eq_zero_iff.1 h0⟩
  · refine .inr ⟨g, cap, rfl, hb, lt_of_heap hh, hn, hc, fun i hi => ?_⟩
    rw [cell_in, hh]
    have h1 : (cur.toList.take (l.length * 1))[i]? = (numsV K l)[i]? := by rw [hx]
    rw [List.getElem?_take_of_lt (by omega)] at h1
    simp only [numsV, List.getElem?_map, List.getElem?_eq_getElem hi, Option.map_some, Array.getElem?_toList] at h1
    simp [cellIn, h1]
theorem ownsN_slice {w : World} {base : Nat} {E : TypeId} {K : IntKind} {v : Value} {l : List Nat} (h : ownsN w base E K v l) : ∃ p cap, v = .slice p l.length cap := by
  rcases ownsN_form h with ⟨rfl, rfl⟩ | ⟨g, cap, rfl, _⟩
  · exact ⟨_, _, rfl⟩
  · exact ⟨_, _, rfl⟩
theorem ownsN_base {w : World} {base : Nat} {E : TypeId} {K : IntKind} {v : Value} {l : List Nat} (h : ownsN w base E K v l) : ∀ g, v.ownBlock = some g → base ≤ g := by
  rcases ownsN_form h with ⟨rfl, _⟩ | ⟨g, cap, rfl, hb, _⟩
  · intro g hg; simp [Value.ownBlock] at hg
  · intro g' hg; simp only [Value.ownBlock, Option.some.injEq] at hg; omega
theorem ownsN_lt {w : World} {base : Nat} {E : TypeId} {K : IntKind} {v : Value} {l : List Nat} (h : ownsN w base E K v l) : ∀ g, v.ownBlock = some g → g < w.heap.size := by
  rcases ownsN_form h with ⟨rfl, _⟩ | ⟨g, cap, rfl, hb, hlt, _⟩
  · intro g hg; simp [Value.ownBlock] at hg
  · intro g' hg; simp only [Value.ownBlock, Option.some.injEq] at hg; omega
/-- What lies in other blocks may change. -/
theorem ownsN_kept {w w' : World} {base : Nat} {E : TypeId} {K : IntKind} {v : Value} {l : List Nat} {r : Option Nat} (h : ownsN w base E K v l) (hg : w.grownBy w' r) (hr : ∀ k, r = some k → v.ownBlock ≠ some k) : ownsN w' base E K v l := by
  obtain ⟨hl, ⟨rfl, h0⟩ | ⟨g, cap, cur, rfl, hb, hh, hn, hc, hsz, hx⟩⟩ := h
  · exact ⟨hl, .inl ⟨rfl, h0⟩⟩
  · exact ⟨hl, .inr ⟨g, cap, cur, rfl, hb, (hg.block g (lt_of_heap hh) (fun e => hr g e.symm rfl)).trans hh, hn, hc, hsz, hx⟩⟩
theorem ownsN_ext {w w' : World} {base : Nat} {E : TypeId} {K : IntKind} {v : Value} {l : List Nat} (h : ownsN w base E K v l) (hx : ∃ x, w' = ext w x) : ownsN w' base E K v l :=
  ownsN_kept h (grown_below (ext_iff.1 hx) none) (by rintro _ ⟨⟩)
/-- A block that was just laid. -/
theorem ownsN_row {w : World} {base g : Nat} {E : TypeId} {K : IntKind} {l : List Nat} (h : w.heap[g]? = some (.cells (numsV K l).toArray E (0, 0))) (hb : base ≤ g) (hl : l.length ≤ maxLen) : ownsN w base E K (.slice (some ⟨g, 0, none⟩) l.length l.length) l :=
  ⟨by rw [numsV_length, Nat.mul_one], .inr ⟨g, l.length, (numsV K l).toArray, rfl, hb, h, Nat.le_refl _, hl, by rw [List.size_toArray, numsV_length, Nat.mul_one], by rw [List.take_of_length_le]; rw [numsV_length, Nat.mul_one]; exact Nat.le_refl _⟩⟩
theorem ownsN_weak {w : World} {base b' : Nat} {E : TypeId} {K : IntKind} {v : Value} {l : List Nat} (h : ownsN w base E K v l) (hb' : b' ≤ base) : ownsN w b' E K v l := by
  obtain ⟨hl, ⟨rfl, h0⟩ | ⟨g, cap, cur, rfl, hb, h⟩⟩ := h
  · exact ⟨hl, .inl ⟨rfl, h0⟩⟩
  · exact ⟨hl, .inr ⟨g, cap, cur, rfl, by omega, h⟩⟩

section
variable {P : Program} {ops : Array Oper} {rest : List Oper} {o : Oper} {a : Act} {w : World} {Q : Exit → Act → World → Prop}
/-- 'append(v, x)' of one number, which lies in a block of its own, the newest. -/
theorem append_num (T E : TypeId) (K : IntKind) (bytes : Nat) (hT : P.underlying T = some (.slice E)) (hI : (P.info? E).map (fun i => (i.zero, i.size, i.bytes)) = some (some (.int K 0), 1, bytes)) (hby : bytes ≤ 8)
    (new : Nat) (base : Nat) (v : Value) (l : List Nat) (s x : Operand) (m : Int)
    (ho : o.op = .call { callee := .builtin .append, args := #[s, x], argTypes := #[T, T] }) (hgd : o.guard = none) (hs : a.eval s = v) (c : Nat)
    (hx : a.eval x = .slice (some ⟨w.heap.size, 0, none⟩) 1 c) (hm : m = (new : Nat)) (hown : ownsN w base E K v l) (hlen : l.length ≤ 1099511627776) (hbase : base ≤ w.heap.size)
    (h : ∀ v' w', ownsN w' base E K v' (l ++ [new]) → w.grownBy w' v.ownBlock → (v'.ownBlock = v.ownBlock ∨ v'.ownBlock = some (w.heap.size + 1)) → wpList P ops Q rest (a.put o.dst v') w') : wpList P ops Q (o :: rest) a (w.alloc (.cells #[.int K m] E)) := by
  subst hm
  obtain ⟨i0, hi, hz0, hz1, hz2⟩ := info_parts hI
  refine wpList_append_own_at _ hgd s x T ho base E i0 (.int K 0) 1 bytes hT hi hz0 hz1 hz2 rfl (by decide) v l.length (numsV K l) hs (World.ownsRow.alloc hown _)
    ⟨w.heap.size, 0, none⟩ 1 c (numsV K [new]) hx rfl ?_ (numsV_one K [new]) (by unfold maxLen; omega) ?_ (by simp; omega) ?_
  · intro j u hj
    have hadd : (⟨w.heap.size, 0, none⟩ : Addr).add j = ⟨w.heap.size, j, none⟩ := by unfold Addr.add; split <;> simp_all
    rw [hadd, World.cell?_alloc_new, show #[Value.int K (new : Nat)] = (numsV K [new]).toArray from rfl, List.getElem?_toArray]
    exact hj
  · have := Nat.mul_le_mul_left (l.length + 1) hby; omega
  · intro v' w' h1 h2 _ h4
    exact h v' w' (by unfold ownsN; rw [numsV_append, List.length_append]; exact h1) ((World.grownBy_alloc w _ _).trans h2) (by simpa using h4)
/-- 'append(v, x...)' of a slice's numbers. -/
theorem append_slice (T E : TypeId) (K : IntKind) (bytes : Nat) (hT : P.underlying T = some (.slice E)) (hI : (P.info? E).map (fun i => (i.zero, i.size, i.bytes)) = some (some (.int K 0), 1, bytes)) (hby : bytes ≤ 8)
    (base : Nat) (v : Value) (l : List Nat) (base2 : Nat) (l2 : List Nat) (g2 cap2 : Nat) (s x : Operand)
    (ho : o.op = .call { callee := .builtin .append, args := #[s, x], argTypes := #[T, T] }) (hgd : o.guard = none) (hs : a.eval s = v)
    (hx : a.eval x = .slice (some ⟨g2, 0, none⟩) l2.length cap2) (hown : ownsN w base E K v l) (hown2 : ownsN w base2 E K (.slice (some ⟨g2, 0, none⟩) l2.length cap2) l2) (hlen : l.length + l2.length ≤ 1099511627776) (hbase : base ≤ w.heap.size)
    (h : ∀ v' w', ownsN w' base E K v' (l ++ l2) → w.grownBy w' v.ownBlock → (v'.ownBlock = v.ownBlock ∨ v'.ownBlock = some w.heap.size) → wpList P ops Q rest (a.put o.dst v') w') : wpList P ops Q (o :: rest) a w := by
  obtain ⟨i0, hi, hz0, hz1, hz2⟩ := info_parts hI
  refine wpList_append_own_at _ hgd s x T ho base E i0 (.int K 0) 1 bytes hT hi hz0 hz1 hz2 rfl (by decide) v l.length (numsV K l) hs hown
    ⟨g2, 0, none⟩ l2.length cap2 (numsV K l2) hx (by rw [numsV_length, Nat.mul_one]) ?_ (numsV_one K l2) (by unfold maxLen; omega) ?_ hbase ?_
  · intro j u hj
    have hadd : (⟨g2, 0, none⟩ : Addr).add j = ⟨g2, j, none⟩ := by unfold Addr.add; split <;> simp_all
    rcases ownsN_form hown2 with ⟨h0, _⟩ | ⟨g, cap, hv, -, -, -, -, hc⟩
    · cases h0
    · obtain rfl : g2 = g := by injection hv with e1 e2 e3; injection e1 with e1; injection e1
      rw [hadd]
      simp only [numsV, List.getElem?_map, Option.map_eq_some_iff] at hj
      obtain ⟨n, hn, rfl⟩ := hj
      obtain ⟨hl, rfl⟩ := List.getElem?_eq_some_iff.1 hn
      exact hc j hl
  · have := Nat.mul_le_mul_left (l.length + l2.length) hby; omega
  · intro v' w' h1 h2 _ h4
    exact h v' w' (by unfold ownsN; rw [numsV_append, List.length_append]; exact h1) h2 h4
/-- 'make([]T, n)' of numbers. -/
theorem made_nums (K : IntKind) (n : Nat) : (madeCells (Value.int K 0).cells (n * 1)).toList = numsV K (List.replicate n 0) := by
  unfold madeCells numsV
  apply List.ext_getElem?
  intro i
  by_cases h : i < n
  · simp [Value.cells, Nat.mod_one, h]
  · simp [h]
end
end Go.Proofs.YtcbcknfhblamfaaGreatDoor
