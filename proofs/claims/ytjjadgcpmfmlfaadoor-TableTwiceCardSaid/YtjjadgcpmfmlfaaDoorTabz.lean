/- Tables of the call's own, side by side, and blocks besides that stay. -/
import Derived.Test.YtjjadgcpmfmlfaaDoorProg
import Derived.Test.YtjjadgcpmfmlfaaDoorTabs
import Derived.Test.YtjjadgcpmfmlfaaDoorTtL
namespace Go.Proofs.YtjjadgcpmfmlfaaDoor
open Go.RowKit Go.Shelf

theorem tabs.made3 (w : World) : tabs w.heap.size w (((w.alloc (.cells #[.map none] 75)).alloc (.cells #[.map none] 75)).alloc (.cells #[.map none] 75)) w.heap.size 3 0 (fun _ => []) :=
  (((tabs.start (Below.refl w.heap.size w) (Nat.le_refl _)).more rfl rfl).more (by simp) rfl).more (by simp) rfl
/-- K tables in the blocks s, s + 1, ..; the blocks from a to b are none of theirs, and stay as they were in w1. -/
def tabz (m : Nat) (w0 w : World) (s K n : Nat) (T : Nat → List Cell) (a b : Nat) (w1 : World) : Prop :=
  ∃ mb : Nat → Option Nat, (∀ j, j < K → tabAt w (s + j) (mb j) n (T j)) ∧ (∀ j, j < K → ∀ g, mb j = some g → m ≤ g ∧ (g < s ∨ s + K ≤ g) ∧ (g < a ∨ b ≤ g) ∧ ∀ i, i < K → mb i = some g → i = j) ∧ (m ≤ s ∧ s + K ≤ a ∧ b ≤ w.heap.size) ∧ Below m w0 w ∧ m ≤ w.heap.size ∧ ∀ i, a ≤ i → i < b → w.heap[i]? = w1.heap[i]?
theorem tabz.of {m : Nat} {w0 w w' : World} {s K n : Nat} {T : Nat → List Cell} (h : tabs m w0 w s K n T) (hK : 0 < K) (hB : Below w.heap.size w w') : tabz m w0 w' s K n T w.heap.size w'.heap.size w' := by
  obtain ⟨mb, h1, h2, h3, h4, h5⟩ := h
  have hl := lt_of_heap (h1 (K - 1) (by omega)).blk
  refine ⟨mb, fun j hj => (h1 j hj).ext (ext_of hB), fun j hj g hg => ?_, ⟨h3, by omega, Nat.le_refl _⟩, h4.trans (hB.mono h5), Nat.le_trans h5 hB.size, fun _ _ _ => rfl⟩
  obtain ⟨a, b, c⟩ := h2 j hj g hg
  exact ⟨a, b, .inl ((h1 j hj).map g hg).lt, c⟩
theorem tabz.one {m : Nat} {w0 w w1 : World} {s K n a b : Nat} {T : Nat → List Cell} (h : tabz m w0 w s K n T a b w1) (j tb : Nat) (hj : j < K) (ht : tb = s + j) : tabIn m w0 w tb n (T j) := by
  obtain ⟨mb, h1, h2, h3, h4, h5, h6⟩ := h
  subst ht
  exact ⟨mb j, h1 j hj, by omega, fun b hb => (h2 j hj b hb).1, h4, h5⟩
theorem tabz.ext {m : Nat} {w0 w w' w1 : World} {s K n a b : Nat} {T : Nat → List Cell} (h : tabz m w0 w s K n T a b w1) (hx : ∃ x, w' = ext w x) : tabz m w0 w' s K n T a b w1 := by
  obtain ⟨mb, h1, h2, h3, h4, h5, h6⟩ := h
  have hB := ext_iff.1 hx
  exact ⟨mb, fun j hj => (h1 j hj).ext hx, h2, ⟨h3.1, h3.2.1, Nat.le_trans h3.2.2 hB.size⟩, h4.trans (hB.mono h5), Nat.le_trans h5 hB.size, fun i h7 h8 => (hB.block i (Nat.lt_of_lt_of_le h8 h3.2.2)).trans (h6 i h7 h8)⟩
theorem tabz.alloc {m : Nat} {w0 w w1 : World} {s K n a b : Nat} {T : Nat → List Cell} (h : tabz m w0 w s K n T a b w1) (o : Obj) : tabz m w0 (w.alloc o) s K n T a b w1 := h.ext (ext_alloc o (ext_refl w))
theorem tabz.below {m : Nat} {w0 w w1 : World} {s K n a b : Nat} {T : Nat → List Cell} (h : tabz m w0 w s K n T a b w1) : Below m w0 w := by
  obtain ⟨mb, h1, h2, h3, h4, h5, h6⟩ := h
  exact h4
theorem tabz.size {m : Nat} {w0 w w1 : World} {s K n a b : Nat} {T : Nat → List Cell} (h : tabz m w0 w s K n T a b w1) : m ≤ w.heap.size ∧ b ≤ w.heap.size := by
  obtain ⟨mb, h1, h2, h3, h4, h5, h6⟩ := h
  exact ⟨h5, h3.2.2⟩
theorem tabz.kept {m : Nat} {w0 w w1 : World} {s K n a b : Nat} {T : Nat → List Cell} (h : tabz m w0 w s K n T a b w1) : ∀ i, a ≤ i → i < b → w.heap[i]? = w1.heap[i]? := by
  obtain ⟨mb, h1, h2, h3, h4, h5, h6⟩ := h
  exact h6
/-- A store into a block below. -/
theorem tabz.store {m eb : Nat} {w0 w w' w1 : World} {s K n a b : Nat} {T : Nat → List Cell} (h : tabz m w0 w s K n T a b w1) (hb : eb < m) (hs : w'.heap.size = w.heap.size) (hg : w.grownBy w' (some eb)) : tabz m w' w' s K n T a b w1 := by
  obtain ⟨mb, h1, h2, h3, h4, h5, h6⟩ := h
  have hh : ∀ i, i < w.heap.size → i ≠ eb → w'.heap[i]? = w.heap[i]? := fun i hi hn => hg.block i hi (by simp [hn])
  refine ⟨mb, fun j hj => (h1 j hj).same (hh _ (lt_of_heap (h1 j hj).blk) (by omega)) (fun g hg => hh g ((h1 j hj).map g hg).lt (by have := (h2 j hj g hg).1; omega)), h2, ⟨h3.1, h3.2.1, by omega⟩, Below.refl _ _, by omega, fun i h7 h8 => (hh i (by omega) (by omega)).trans (h6 i h7 h8)⟩
/-- Rows that lie in those blocks. -/
theorem tabz.rows {m : Nat} {w0 w w1 : World} {s K n a : Nat} {T : Nat → List Cell} {q : Option Addr} {k cp : Nat} {l : List Cell} (h : tabz m w0 w s K n T a w1.heap.size w1) (ho : ownsCl w1 a (.slice q k cp) l) : cellsIn w q l := by
  have hk := h.kept
  have hs := h.size.2
  rcases (cellsIn_of ho).1 with h0 | ⟨g, hq, hg, hc⟩
  · exact .inl h0
  · subst hq
    have hb := (ho.base (g := g) rfl).1
    refine .inr ⟨g, rfl, Nat.lt_of_lt_of_le hg hs, fun j hj i v hi => ?_⟩
    rw [cell_in, hk g hb hg, ← cell_in]
    exact hc j hj i v hi
theorem apply_tabz (e : Ev) {m : Nat} {w0 w w1 : World} {s K n a b : Nat} {T : Nat → List Cell} (h : tabz m w0 w s K n T a b w1) (j tb : Nat) (hj : j < K) (ht : tb = s + j) (hn : n ≤ 1048576) (hz : e.subject.size ≤ 1048576 ∧ e.table.size ≤ 1048576 ∧ e.row.size ≤ 1048576) :
    Calls Tryd.prog 54 #[.pointer (some ⟨tb, 0, none⟩), .agg (evV e)] w fun x w' => x = .returned (if rightE okV e = true then .nilIface else errV 1) ∧ tabz m w0 w' s K (n + 1) (updT T j (applyT okV e (T j))) a b w1 := by
  obtain ⟨mb, h1, h2, ⟨h3, h3a, h3b⟩, h4, h5, h6⟩ := h
  subst ht
  have hlt : ∀ i, i < K → ∀ g, mb i = some g → g < w.heap.size := fun i hi g hg => ((h1 i hi).map g hg).lt
  have hst : ∀ i, i < K → s + i < w.heap.size := fun i hi => lt_of_heap (h1 i hi).blk
  refine (apply_any e w (s + j) (mb j) n (T j) (h1 j hj) hn hz).mono ?_
  rintro x w' ⟨hx, mx', t1, t2, t3, k⟩
  have hmx : ∀ g, mx' = some g → m ≤ g ∧ (g < s ∨ s + K ≤ g) ∧ (g < a ∨ b ≤ g) ∧ ∀ i, i < K → i ≠ j → mb i ≠ some g := by
    intro g hg
    cases hb : mb j with
    | none =>
      have := t3 hb g hg
      have hK := hst (K - 1) (by omega)
      refine ⟨by omega, by omega, by omega, fun i hi _ e' => ?_⟩
      have := hlt i hi g e'
      omega
    | some b0 =>
      have h' := t2 b0 hb
      rw [h'] at hg
      cases hg
      obtain ⟨a1, b1, b2, c⟩ := h2 j hj _ hb
      exact ⟨a1, b1, b2, fun i hi hne e' => hne (c i hi e')⟩
  refine ⟨hx, fun i => if i = j then mx' else mb i, fun i hi => ?_, fun i hi g hg => ?_, ⟨h3, h3a, Nat.le_trans h3b k.size⟩, ⟨k.os.trans h4.os, k.tape.trans h4.tape, k.output.trans h4.output, Nat.le_trans h4.size k.size, fun i hi => ?_⟩, Nat.le_trans h5 k.size, fun i h7 h8 => ?_⟩
  · by_cases e' : i = j
    · subst e'
      dsimp only
      rw [if_pos rfl, updT_same]
      exact t1
    · dsimp only
      rw [if_neg e', updT_other _ _ e']
      have hi' := h1 i hi
      refine (hi'.mono (Nat.le_succ n)).same (k.block _ (hst i hi) (by omega) ?_) (fun b hb => k.block b (hlt i hi b hb) ?_ ?_)
      · intro e2
        have hb : mb j = some (s + i) := e2.symm
        have := (h2 j hj _ hb).2.1
        omega
      · have := (h2 i hi b hb).2.1
        omega
      · intro e2
        exact e' ((h2 j hj b e2.symm).2.2.2 i hi hb)
  · dsimp only at hg
    by_cases e' : i = j
    · rw [if_pos e'] at hg
      obtain ⟨a1, b1, b2, c⟩ := hmx g hg
      refine ⟨a1, b1, b2, fun i' hi' hg' => ?_⟩
      by_cases e2 : i' = j
      · exact e2.trans e'.symm
      · dsimp only at hg'
        rw [if_neg e2] at hg'
        exact absurd hg' (c i' hi' e2)
    · rw [if_neg e'] at hg
      obtain ⟨a1, b1, b2, c⟩ := h2 i hi g hg
      refine ⟨a1, b1, b2, fun i' hi' hg' => ?_⟩
      by_cases e2 : i' = j
      · dsimp only at hg'
        rw [if_pos e2] at hg'
        exact absurd hg ((hmx g hg').2.2.2 i hi e')
      · dsimp only at hg'
        rw [if_neg e2] at hg'
        exact c i' hi' hg'
  · refine (k.block i (Nat.lt_of_lt_of_le hi h5) (by omega) ?_).trans (h4.block i hi)
    intro e'
    have := (h2 j hj i e'.symm).1
    omega
  · refine (k.block i (by omega) (by omega) ?_).trans (h6 i h7 h8)
    intro e'
    have := (h2 j hj i e'.symm).2.2.1
    omega
theorem named_small {T : List Cell} (h : named T) {c : Cell} (hc : c ∈ T) : c.table.size ≤ 1048576 ∧ c.row.size ≤ 1048576 := by
  obtain ⟨h1, h2⟩ := h c hc
  unfold nameB at h1 h2
  simp only [Bool.and_eq_true, decide_eq_true_eq] at h1 h2
  have e1 : (txt c.table).length = c.table.size := Array.length_toList
  have e2 : (txt c.row).length = c.row.size := Array.length_toList
  omega
theorem delT_perm {l T : List Cell} (h : l.Perm T) (e : Ev) (p : Cell → Bool) (hp : ∀ c, p c = decide (ck c = ek e)) : (l.filter fun c => !p c).Perm (delT (ek e) T) := by
  unfold delT
  have := h.filter fun c => !p c
  rw [show (fun c => !p c) = fun c => !decide (ck c = ek e) from funext fun c => by rw [hp]] at this ⊢
  exact this
end Go.Proofs.YtjjadgcpmfmlfaaDoor
