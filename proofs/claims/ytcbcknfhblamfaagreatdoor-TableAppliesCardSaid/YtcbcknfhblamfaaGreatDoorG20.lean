/- Tables of the call's own, side by side. -/
import Derived.Test.YtcbcknfhblamfaaGreatDoorProg
import Derived.Test.YtcbcknfhblamfaaGreatDoorG19
import Derived.Test.YtcbcknfhblamfaaGreatDoorInv
namespace Go.Proofs.YtcbcknfhblamfaaGreatDoor
open Go.RowKit Go.Shelf

theorem tabAt.same {w w' : World} {tb : Nat} {mb : Option Nat} {n : Nat} {T : List Cell} (h : tabAt w tb mb n T) (h1 : w'.heap[tb]? = w.heap[tb]?) (h2 : ∀ b, mb = some b → w'.heap[b]? = w.heap[b]?) : tabAt w' tb mb n T :=
  ⟨h1.trans h.blk, h.nil, fun b hb => by
    obtain ⟨⟨es, ⟨e1, c1, hh, hf⟩, hp⟩, ho, hs⟩ := h.map b hb
    exact ⟨⟨es, ⟨e1, c1, (h2 b hb).trans hh, hf⟩, hp⟩, ho, hs⟩⟩
def updT (T : Nat → List Cell) (j : Nat) (U : List Cell) (i : Nat) : List Cell := if i = j then U else T i
theorem updT_same (T : Nat → List Cell) (j : Nat) (U : List Cell) : updT T j U j = U := if_pos rfl
theorem updT_other (T : Nat → List Cell) {j i : Nat} (U : List Cell) (h : i ≠ j) : updT T j U i = T i := if_neg h
/-- K tables in the blocks s, s + 1, ..; all that is theirs lies from block m on. -/
def tabs (m : Nat) (w0 w : World) (s K n : Nat) (T : Nat → List Cell) : Prop :=
  ∃ mb : Nat → Option Nat, (∀ j, j < K → tabAt w (s + j) (mb j) n (T j)) ∧ (∀ j, j < K → ∀ g, mb j = some g → m ≤ g ∧ (g < s ∨ s + K ≤ g) ∧ ∀ i, i < K → mb i = some g → i = j) ∧ m ≤ s ∧ Below m w0 w ∧ m ≤ w.heap.size
theorem tabs.one {m : Nat} {w0 w : World} {s K n : Nat} {T : Nat → List Cell} (h : tabs m w0 w s K n T) (j tb : Nat) (hj : j < K) (ht : tb = s + j) : tabIn m w0 w tb n (T j) := by
  obtain ⟨mb, h1, h2, h3, h4, h5⟩ := h
  subst ht
  exact ⟨mb j, h1 j hj, by omega, fun b hb => (h2 j hj b hb).1, h4, h5⟩
theorem tabs.ext {m : Nat} {w0 w w' : World} {s K n : Nat} {T : Nat → List Cell} (h : tabs m w0 w s K n T) (hx : ∃ x, w' = ext w x) : tabs m w0 w' s K n T := by
  obtain ⟨mb, h1, h2, h3, h4, h5⟩ := h
  exact ⟨mb, fun j hj => (h1 j hj).ext hx, h2, h3, h4.trans ((ext_iff.1 hx).mono h5), Nat.le_trans h5 (ext_iff.1 hx).size⟩
theorem tabs.alloc {m : Nat} {w0 w : World} {s K n : Nat} {T : Nat → List Cell} (h : tabs m w0 w s K n T) (o : Obj) : tabs m w0 (w.alloc o) s K n T := h.ext (ext_alloc o (ext_refl w))
theorem tabs.below {m : Nat} {w0 w : World} {s K n : Nat} {T : Nat → List Cell} (h : tabs m w0 w s K n T) : Below m w0 w := by
  obtain ⟨mb, h1, h2, h3, h4, h5⟩ := h
  exact h4
theorem tabs.size {m : Nat} {w0 w : World} {s K n : Nat} {T : Nat → List Cell} (h : tabs m w0 w s K n T) : m ≤ w.heap.size := by
  obtain ⟨mb, h1, h2, h3, h4, h5⟩ := h
  exact h5
theorem tabs.once {m : Nat} {w0 w : World} {s K n : Nat} {T : Nat → List Cell} (h : tabs m w0 w s K n T) (j : Nat) (hj : j < K) : Once (T j) := (h.one j _ hj rfl).once
theorem tabs.start {m : Nat} {w0 w : World} (hB : Below m w0 w) (hm : m ≤ w.heap.size) : tabs m w0 w w.heap.size 0 0 (fun _ => []) :=
  ⟨fun _ => none, fun j hj => absurd hj (Nat.not_lt_zero j), fun j hj => absurd hj (Nat.not_lt_zero j), hm, hB, hm⟩
theorem tabs.more {m : Nat} {w0 w : World} {s K n : Nat} {T : Nat → List Cell} (h : tabs m w0 w s K n T) (hs : w.heap.size = s + K) (hT : T K = []) : tabs m w0 (w.alloc (.cells #[.map none] 30)) s (K + 1) n T := by
  obtain ⟨mb, h1, h2, h3, h4, h5⟩ := h
  have hlt : ∀ j, j < K → ∀ g, mb j = some g → g < w.heap.size := fun j hj g hg => ((h1 j hj).map g hg).lt
  refine ⟨fun i => if i = K then none else mb i, fun j hj => ?_, fun j hj g hg => ?_, h3, h4.alloc h5 _, by simp; omega⟩
  · by_cases e : j = K
    · subst e
      dsimp only
      rw [if_pos rfl]
      exact ⟨by rw [← hs]; exact heap_alloc_at _ _, fun _ => hT, fun b hb => by cases hb⟩
    · dsimp only
      rw [if_neg e]
      exact (h1 j (by omega)).ext (ext_alloc _ (ext_refl w))
  · by_cases e : j = K
    · dsimp only at hg
      rw [if_pos e] at hg; cases hg
    · dsimp only at hg
      rw [if_neg e] at hg
      obtain ⟨a, b, c⟩ := h2 j (by omega) g hg
      have := hlt j (by omega) g hg
      refine ⟨a, by omega, fun i hi hgi => ?_⟩
      by_cases e' : i = K
      · dsimp only at hgi
        rw [if_pos e'] at hgi; cases hgi
      · dsimp only at hgi
        rw [if_neg e'] at hgi
        exact c i (by omega) hgi
theorem apply_tabs (e : Ev) {m : Nat} {w0 w : World} {s K n : Nat} {T : Nat → List Cell} (h : tabs m w0 w s K n T) (j tb : Nat) (hj : j < K) (ht : tb = s + j) (hn : n ≤ 1048576) (hz : e.subject.size ≤ 1048576 ∧ e.table.size ≤ 1048576 ∧ e.row.size ≤ 1048576) :
    Calls Tryz.prog 7 #[.pointer (some ⟨tb, 0, none⟩), .agg (evV e)] w fun x w' => x = .returned (if rightE okV e = true then .nilIface else errV 1) ∧ tabs m w0 w' s K (n + 1) (updT T j (applyT okV e (T j))) := by
  obtain ⟨mb, h1, h2, h3, h4, h5⟩ := h
  subst ht
  have hlt : ∀ i, i < K → ∀ g, mb i = some g → g < w.heap.size := fun i hi g hg => ((h1 i hi).map g hg).lt
  have hst : ∀ i, i < K → s + i < w.heap.size := fun i hi => lt_of_heap (h1 i hi).blk
  refine (apply_any e w (s + j) (mb j) n (T j) (h1 j hj) hn hz).mono ?_
  rintro x w' ⟨hx, mx', t1, t2, t3, k⟩
  have hmx : ∀ g, mx' = some g → m ≤ g ∧ (g < s ∨ s + K ≤ g) ∧ ∀ i, i < K → i ≠ j → mb i ≠ some g := by
    intro g hg
    cases hb : mb j with
    | none =>
      have := t3 hb g hg
      have hK := hst (K - 1) (by omega)
      refine ⟨by omega, by omega, fun i hi _ e' => ?_⟩
      have := hlt i hi g e'
      omega
    | some b0 =>
      have h' := t2 b0 hb
      rw [h'] at hg
      cases hg
      obtain ⟨a, b, c⟩ := h2 j hj _ hb
      exact ⟨a, b, fun i hi hne e' => hne (c i hi e')⟩
  refine ⟨hx, fun i => if i = j then mx' else mb i, fun i hi => ?_, fun i hi g hg => ?_, h3, ⟨k.os.trans h4.os, k.tape.trans h4.tape, k.output.trans h4.output, Nat.le_trans h4.size k.size, fun i hi => ?_⟩, Nat.le_trans h5 k.size⟩
  · by_cases e' : i = j
    · subst e'
      dsimp only
      rw [if_pos rfl, updT_same]
      exact t1
    · dsimp only
      rw [if_neg e', updT_other _ _ e']
      have hi' := h1 i hi
      refine (hi'.mono (Nat.le_succ n)).same (k.block _ (hst i hi) (by omega) ?_) (fun b hb => k.block b (hlt i hi b hb) ?_ ?_)
      · intro e2
        have hb : mb j = some (s + i) := e2.symm
        have := (h2 j hj _ hb).2.1
        omega
      · have := (h2 i hi b hb).2.1
        omega
      · intro e2
        exact e' ((h2 j hj b e2.symm).2.2 i hi hb)
  · dsimp only at hg
    by_cases e' : i = j
    · rw [if_pos e'] at hg
      obtain ⟨a, b, c⟩ := hmx g hg
      refine ⟨a, b, fun i' hi' hg' => ?_⟩
      by_cases e2 : i' = j
      · exact e2.trans e'.symm
      · dsimp only at hg'
        rw [if_neg e2] at hg'
        exact absurd hg' (c i' hi' e2)
    · rw [if_neg e'] at hg
      obtain ⟨a, b, c⟩ := h2 i hi g hg
      refine ⟨a, b, fun i' hi' hg' => ?_⟩
      by_cases e2 : i' = j
      · dsimp only at hg'
        rw [if_pos e2] at hg'
        exact absurd hg ((hmx g hg').2.2 i hi e')
      · dsimp only at hg'
        rw [if_neg e2] at hg'
        exact c i' hi' hg'
  · refine (k.block i (Nat.lt_of_lt_of_le hi h5) (by omega) ?_).trans (h4.block i hi)
    intro e'
    have := (h2 j hj i e'.symm).1
    omega
theorem few_smalls {l : List Ev} (h : fewB l = true) : l.length ≤ 30 ∧ ∀ e ∈ l, e.subject.size ≤ 1048576 ∧ e.table.size ≤ 1048576 ∧ e.row.size ≤ 1048576 := by
  unfold fewB at h
  simp only [Bool.and_eq_true, decide_eq_true_eq, Bool.not_eq_true', List.any_eq_false] at h
  refine ⟨by omega, fun e he => ?_⟩
  have := h.2 e he
  unfold longE at this
  simp only [Bool.or_eq_true, decide_eq_true_eq, not_or] at this
  omega
/-- One cell of events. -/
theorem evsAt_cells {w : World} {g o j : Nat} {l : List Ev} {x : Ev} (h : ∀ j e, l[j]? = some e → ∀ i v, (evVs e)[i]? = some v → w.cell? ⟨g, o + j * 5 + i, none⟩ = some v) (hj : l[j]? = some x) :
    w.cell? ⟨g, o + j * 5, none⟩ = some (.int .i64 x.kind) ∧ w.cell? ⟨g, o + j * 5 + 1, none⟩ = some (.string x.subject) ∧ w.cell? ⟨g, o + j * 5 + 2, none⟩ = some (.string x.table) ∧ w.cell? ⟨g, o + j * 5 + 3, none⟩ = some (.string x.row) ∧ w.cell? ⟨g, o + j * 5 + 4, none⟩ = some (.string x.value) :=
  ⟨h j x hj 0 _ rfl, h j x hj 1 _ rfl, h j x hj 2 _ rfl, h j x hj 3 _ rfl, h j x hj 4 _ rfl⟩
theorem tabIn.len {m : Nat} {w0 w : World} {tb n : Nat} {T : List Cell} (h : tabIn m w0 w tb n T) : T.length ≤ n := by
  obtain ⟨mb, h1, _⟩ := h
  cases mb with
  | none => rw [h1.nil rfl]; exact Nat.zero_le _
  | some b => exact (h1.map b rfl).len_le
theorem rows_shape {w : World} {base : Nat} {v : Value} {l : List Cell} (h : ownsCl w base v l) : ∃ q cap, v = .slice q l.length cap := by
  by_cases e : l = []
  · subst e
    obtain ⟨_, ⟨h1, _⟩ | ⟨g, cap, cur, h1, _⟩⟩ := h
    · exact ⟨none, 0, h1⟩
    · exact ⟨some ⟨g, 0, none⟩, cap, h1⟩
  · obtain ⟨g, cap, cur, hv, _⟩ := ownsCl_form h e
    exact ⟨_, cap, hv⟩
theorem rows_at {w w' : World} {q : Option Addr} {l : List Cell} (h : cellsIn w q l) (hb : Below w.heap.size w w') : cellsIn w' q l := by
  rcases h with h | ⟨g, hq, hg, hc⟩
  · exact .inl h
  · exact .inr ⟨g, hq, Nat.lt_of_lt_of_le hg hb.size, fun j hj i v hi => cell_below (p := ⟨g, 0 + j * 4 + i, none⟩) hb hg (hc j hj i v hi)⟩
end Go.Proofs.YtcbcknfhblamfaaGreatDoor
