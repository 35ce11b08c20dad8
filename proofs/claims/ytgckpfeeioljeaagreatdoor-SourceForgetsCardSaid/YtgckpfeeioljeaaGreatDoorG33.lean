/- oubliettekeep.done (the walk): a source to which events happen. -/
import Derived.Test.YtgckpfeeioljeaaGreatDoorProg
import Derived.Test.YtgckpfeeioljeaaGreatDoorG30
import Derived.Test.YtgckpfeeioljeaaGreatDoorG29
import Derived.Test.YtgckpfeeioljeaaGreatDoorG32
namespace Go.Proofs.YtgckpfeeioljeaaGreatDoor
open Go.RowKit Go.Shelf

/-! ### Slices of slices of rows -/
theorem infoS : (Tryz.prog.info? 41).map (fun i => (i.zero, i.size, i.bytes)) = some (some (.slice none 0 0), 1, 24) := by kernel_rfl
def ownsSl (w : World) (base : Nat) (v : Value) (vs : List Value) : Prop := w.ownsRow base 41 1 v vs.length vs
theorem ownsSl.kept {w w' : World} {base : Nat} {v : Value} {l : List Value} {row : Option Nat} (h : ownsSl w base v l) (hg : w.grownBy w' row) (hne : ∀ g, v.ownBlock = some g → some g ≠ row) : ownsSl w' base v l := by
  obtain ⟨h1, ⟨rfl, h2⟩ | ⟨g, cap, cur, rfl, hb, hh, h3⟩⟩ := h
  · exact ⟨h1, .inl ⟨rfl, h2⟩⟩
  · exact ⟨h1, .inr ⟨g, cap, cur, rfl, hb, (hg.block g (lt_of_heap hh) (hne g rfl)).trans hh, h3⟩⟩
theorem ownsSl.base {w : World} {base : Nat} {v : Value} {l : List Value} (h : ownsSl w base v l) {g : Nat} (hg : v.ownBlock = some g) : base ≤ g ∧ g < w.heap.size := by
  obtain ⟨h1, ⟨rfl, h2⟩ | ⟨g', cap, cur, rfl, hb, hh, h3⟩⟩ := h
  · simp [Value.ownBlock] at hg
  · simp only [Value.ownBlock, Option.some.injEq] at hg
    subst hg
    exact ⟨hb, lt_of_heap hh⟩
theorem ownsSl_shape {w : World} {base : Nat} {v : Value} {l : List Value} (h : ownsSl w base v l) : ∃ q cap, v = .slice q l.length cap := by
  obtain ⟨_, ⟨h1, h2⟩ | ⟨g, cap, cur, h1, _⟩⟩ := h
  · exact ⟨none, 0, by rw [h1, h2]⟩
  · exact ⟨some ⟨g, 0, none⟩, cap, h1⟩
theorem ownsSl_cell {w : World} {base n cap : Nat} {q : Option Addr} {l : List Value} (h : ownsSl w base (.slice q n cap) l) {j : Nat} {u : Value} (hj : l[j]? = some u) : ∃ g, q = some ⟨g, 0, none⟩ ∧ g < w.heap.size ∧ w.cell? ⟨g, j, none⟩ = some u := by
  have hl := (List.getElem?_eq_some_iff.1 hj).1
  obtain ⟨_, ⟨h1, h2⟩ | ⟨g, cap', cur, h1, _, hh, _, _, _, hx⟩⟩ := h
  · omega
  · cases h1
    refine ⟨g, rfl, lt_of_heap hh, ?_⟩
    have h2 : (cur.toList.take (l.length * 1))[j]? = l[j]? := by rw [hx]
    rw [List.getElem?_take_of_lt (by omega), hj, Array.getElem?_toList] at h2
    rw [cell_in, hh]
    simp [cellIn, h2]
section
variable {ops : Array Oper} {rest : List Oper} {o : Oper} {a : Act} {w : World} {Q : Exit → Act → World → Prop}
/-- 'append(v, l)'. -/
theorem append_sl (base : Nat) (v : Value) (l : List Value) (q : Option Addr) (n c : Nat) (s x : Operand) (cp : Nat)
    (ho : o.op = .call { callee := .builtin .append, args := #[s, x], argTypes := #[26, 26] }) (hgd : o.guard = none) (hs : a.eval s = v)
    (hx : a.eval x = .slice (some ⟨w.heap.size, 0, none⟩) 1 cp) (hown : ownsSl w base v l) (hlen : l.length ≤ 1048576) (hbase : base ≤ w.heap.size)
    (h : ∀ v' w', ownsSl w' base v' (l ++ [.slice q n c]) → w.grownBy w' v.ownBlock → (v'.ownBlock = v.ownBlock ∨ v'.ownBlock = some (w.heap.size + 1)) → wpList Tryz.prog ops Q rest (a.put o.dst v') w') :
    wpList Tryz.prog ops Q (o :: rest) a (w.alloc (.cells #[.slice q n c] 41)) := by
  obtain ⟨i0, hi, hz0, hz1, hz2⟩ := info_parts infoS
  refine wpList_append_own_at _ hgd s x 26 ho base 41 i0 (.slice none 0 0) 1 24 Tryz.underlying26 hi hz0 hz1 hz2 rfl (by decide) v l.length l hs (World.ownsRow.alloc hown _)
    ⟨w.heap.size, 0, none⟩ 1 cp [.slice q n c] hx rfl ?_ (by intro u hu; simp at hu; rw [hu]; rfl) (by unfold maxLen; omega) (by omega) (by simp; omega) ?_
  · intro j u hj
    have hadd : (⟨w.heap.size, 0, none⟩ : Addr).add j = ⟨w.heap.size, j, none⟩ := by unfold Addr.add; split <;> simp_all
    rw [hadd, World.cell?_alloc_new, show #[Value.slice q n c] = ([Value.slice q n c] : List Value).toArray from rfl, List.getElem?_toArray]
    exact hj
  · intro v' w' h1 h2 _ h4
    refine h v' w' ?_ ((World.grownBy_alloc w _ _).trans h2) (by simpa using h4)
    unfold ownsSl
    rw [List.length_append]
    exact h1
/-- 'append(v, e)', and where it lies. -/
theorem append_ev2 (base : Nat) (v : Value) (l : List Ev) (e : Ev) (s x : Operand) (cp : Nat)
    (ho : o.op = .call { callee := .builtin .append, args := #[s, x], argTypes := #[22, 22] }) (hgd : o.guard = none) (hs : a.eval s = v)
    (hx : a.eval x = .slice (some ⟨w.heap.size, 0, none⟩) 1 cp) (hown : ownsEl w base v l) (hlen : l.length ≤ 1099511627776) (hbase : base ≤ w.heap.size)
    (h : ∀ v' w', ownsEl w' base v' (l ++ [e]) → w.grownBy w' v.ownBlock → (v'.ownBlock = v.ownBlock ∨ v'.ownBlock = some (w.heap.size + 1)) → wpList Tryz.prog ops Q rest (a.put o.dst v') w') :
    wpList Tryz.prog ops Q (o :: rest) a (w.alloc (.cells #[.int .i64 e.kind, .string e.subject, .string e.table, .string e.row, .string e.value] 51)) := by
  obtain ⟨i0, hi, hz0, hz1, hz2⟩ := info_parts infoE
  refine wpList_append_own_at _ hgd s x 22 ho base 51 i0 (.agg (evV ⟨0, ⟨#[]⟩, ⟨#[]⟩, ⟨#[]⟩, ⟨#[]⟩⟩)) 5 72 Tryz.underlying22 hi hz0 hz1 hz2 rfl (by decide) v l.length (flatE l) hs (World.ownsRow.alloc hown _)
    ⟨w.heap.size, 0, none⟩ 1 cp (evVs e) hx rfl ?_ (by intro u hu; simp [evVs] at hu; rcases hu with rfl | rfl | rfl | rfl | rfl <;> rfl) (by unfold maxLen; omega) (by omega) (by simp; omega) ?_
  · intro j u hj
    have hadd : (⟨w.heap.size, 0, none⟩ : Addr).add j = ⟨w.heap.size, j, none⟩ := by unfold Addr.add; split <;> simp_all
    rw [hadd, World.cell?_alloc_new, show #[Value.int .i64 e.kind, .string e.subject, .string e.table, .string e.row, .string e.value] = (evVs e).toArray from rfl, List.getElem?_toArray]
    exact hj
  · intro v' w' h1 h2 _ h4
    refine h v' w' ?_ ((World.grownBy_alloc w _ _).trans h2) (by simpa using h4)
    unfold ownsEl
    rw [flatE_append, List.length_append]
    exact h1
end
/-! ### What 'done' has -/
/-- A slice of rows that nobody writes. -/
def rowHeld (w : World) (A : Blk) (v : Value) (r : List Cell) : Prop := ∃ q cap, v = .slice q r.length cap ∧ cellsIn w q r ∧ ∀ a, q = some a → ¬ A a.block ∧ a.block < w.heap.size
theorem cellsIn_same {w w' : World} {q : Option Addr} {l : List Cell} (h : cellsIn w q l) (hk : ∀ a, q = some a → w'.heap[a.block]? = w.heap[a.block]?) (hs : w.heap.size ≤ w'.heap.size) : cellsIn w' q l := by
  rcases h with h | ⟨g, hq, hg, hc⟩
  · exact .inl h
  · refine .inr ⟨g, hq, Nat.lt_of_lt_of_le hg hs, fun j hj i v hi => ?_⟩
    have := hc j hj i v hi
    rw [cell_in] at this ⊢
    rw [hk _ hq]; exact this
theorem rowHeld.step {w w' : World} {A A' : Blk} {v : Value} {r : List Cell} (h : rowHeld w A v r) (g : Go.Proofs.YtgckpfeeioljeaaGreatDoor.step w w' A A') : rowHeld w' A' v r := by
  obtain ⟨q, cap, h1, h2, h3⟩ := h
  refine ⟨q, cap, h1, cellsIn_same h2 (fun a ha => (g.keep (h3 a ha).2 (h3 a ha).1).1) g.size, fun a ha => ?_⟩
  obtain ⟨_, k2, k3⟩ := g.keep (h3 a ha).2 (h3 a ha).1
  exact ⟨k3, k2⟩
theorem rowHeld.of {w : World} {A : Blk} {base : Nat} {v : Value} {r : List Cell} (h : ownsCl w base v r) (hA : ∀ i, base ≤ i → ¬ A i) : rowHeld w A v r := by
  obtain ⟨q, cap, rfl⟩ : ∃ q cap, v = .slice q r.length cap := by
    obtain ⟨_, ⟨h1, h2⟩ | ⟨g, cap, cur, h1, _⟩⟩ := h
    · exact ⟨none, 0, by rw [h1, h2]⟩
    · exact ⟨some ⟨g, 0, none⟩, cap, h1⟩
  refine ⟨q, cap, rfl, (cellsIn_of h).1, fun a ha => ?_⟩
  have := h.base (g := a.block) (by rw [ha]; rfl)
  exact ⟨hA _ this.1, this.2⟩
/-- A list of such slices. -/
def rowsHeld (w : World) (A : Blk) (vs : List Value) (rs : List (List Cell)) : Prop := vs.length = rs.length ∧ ∀ (j : Nat) v r, vs[j]? = some v → rs[j]? = some r → rowHeld w A v r
theorem rowsHeld.step {w w' : World} {A A' : Blk} {vs : List Value} {rs : List (List Cell)} (h : rowsHeld w A vs rs) (g : Go.Proofs.YtgckpfeeioljeaaGreatDoor.step w w' A A') : rowsHeld w' A' vs rs :=
  ⟨h.1, fun j v r h1 h2 => (h.2 j v r h1 h2).step g⟩
theorem rowsHeld.snoc {w : World} {A : Blk} {vs : List Value} {rs : List (List Cell)} {v : Value} {r : List Cell} (h : rowsHeld w A vs rs) (g : rowHeld w A v r) : rowsHeld w A (vs ++ [v]) (rs ++ [r]) := by
  refine ⟨by simp [h.1], fun j x y h1 h2 => ?_⟩
  by_cases hj : j < vs.length
  · rw [List.getElem?_append_left hj] at h1
    rw [List.getElem?_append_left (by rw [← h.1]; exact hj)] at h2
    exact h.2 j x y h1 h2
  · rw [List.getElem?_append_right (by omega)] at h1
    rw [List.getElem?_append_right (by rw [← h.1]; omega)] at h2
    have h3 := (List.getElem?_eq_some_iff.1 h1).1
    have : j - vs.length = 0 := by simp at h3; omega
    rw [this] at h1
    rw [← h.1, this] at h2
    simp only [List.getElem?_cons_zero, Option.some.injEq] at h1 h2
    rw [← h1, ← h2]; exact g
/-- What stands in memory as 'done' goes on. A: all blocks that may yet be written. -/
structure doneAt (w0 w : World) (V F A : Blk) (sb vb n : Nat) (sec : ByteArray) (R : RunM) (vo vr : Value) (vs : List Value) : Prop where
  st : step w0 w none0 A
  src : srcIn w V F sb vb n sec R.S
  sub : ∀ i, F i → A i
  oks : ownsEl w w0.heap.size vo R.ok
  okA : ∀ g, vo.ownBlock = some g → A g ∧ ¬ F g
  rws : ownsSl w w0.heap.size vr vs
  rwA : ∀ g, vr.ownBlock = some g → A g ∧ ¬ F g ∧ vo.ownBlock ≠ some g
  held : rowsHeld w A vs R.rows
theorem doneAt.ext {w0 w w' : World} {V F A : Blk} {sb vb n : Nat} {sec : ByteArray} {R : RunM} {vo vr : Value} {vs : List Value} (h : doneAt w0 w V F A sb vb n sec R vo vr vs) (hx : ∃ x, w' = Go.Proofs.YtgckpfeeioljeaaGreatDoor.ext w x) : doneAt w0 w' V F A sb vb n sec R vo vr vs :=
  have hg := grown_below (ext_iff.1 hx) none
  ⟨h.st.trans (.of_ext A hx), h.src.ext hx, h.sub, h.oks.kept hg (by simp), h.okA, h.rws.kept hg (by simp), h.rwA, h.held.step (.of_ext A hx)⟩
theorem doneAt.mono {w0 w : World} {V F A : Blk} {sb vb n n' : Nat} {sec : ByteArray} {R : RunM} {vo vr : Value} {vs : List Value} (h : doneAt w0 w V F A sb vb n sec R vo vr vs) (hn : n ≤ n') : doneAt w0 w V F A sb vb n' sec R vo vr vs :=
  ⟨h.st, h.src.mono hn, h.sub, h.oks, h.okA, h.rws, h.rwA, h.held⟩
/-- The source turns. -/
theorem doneAt.turn {w0 w w' : World} {V F F' A : Blk} {sb vb n n' : Nat} {sec : ByteArray} {R : RunM} {S : SrcM} {vo vr : Value} {vs : List Value} (h : doneAt w0 w V F A sb vb n sec R vo vr vs) (hs : srcIn w' V F' sb vb n' sec S) (g : step w w' F F') :
    doneAt w0 w' V F' (fun i => A i ∨ F' i) sb vb n' sec ⟨S, R.ok, R.rows⟩ vo vr vs := by
  have gl := g.lift h.sub
  have nF : ∀ i, i < w.heap.size → ¬ F i → w'.heap[i]? = w.heap[i]? ∧ ¬ F' i := fun i hi hn => ⟨(g.keep hi hn).1, (g.keep hi hn).2.2⟩
  have hgr : ∀ v : Value, (∀ b, v.ownBlock = some b → b < w.heap.size ∧ ¬ F b) → ∀ b, v.ownBlock = some b → w'.heap[b]? = w.heap[b]? := fun v hv b hb => (nF b (hv b hb).1 (hv b hb).2).1
  refine ⟨h.st.trans gl, hs, fun i hi => .inr hi, ?_, fun b hb => ⟨.inl (h.okA b hb).1, (nF b (h.oks.base hb).2 (h.okA b hb).2).2⟩, ?_, fun b hb => ⟨.inl (h.rwA b hb).1, (nF b (h.rws.base hb).2 (h.rwA b hb).2.1).2, (h.rwA b hb).2.2⟩, h.held.step gl⟩
  · obtain ⟨h1, ⟨h2, h3⟩ | ⟨b, cap, cur, hv, hb, hh, h3⟩⟩ := h.oks
    · exact ⟨h1, .inl ⟨h2, h3⟩⟩
    · exact ⟨h1, .inr ⟨b, cap, cur, hv, hb, ((nF b (lt_of_heap hh) (h.okA b (by rw [hv]; rfl)).2).1).trans hh, h3⟩⟩
  · obtain ⟨h1, ⟨h2, h3⟩ | ⟨b, cap, cur, hv, hb, hh, h3⟩⟩ := h.rws
    · exact ⟨h1, .inl ⟨h2, h3⟩⟩
    · exact ⟨h1, .inr ⟨b, cap, cur, hv, hb, ((nF b (lt_of_heap hh) (h.rwA b (by rw [hv]; rfl)).2.1).1).trans hh, h3⟩⟩
/-- An event is appended. -/
theorem doneAt.more {w0 w w' : World} {V F A : Blk} {sb vb n : Nat} {sec : ByteArray} {R : RunM} {vo vr vo' : Value} {vs : List Value} {ok' : List Ev} (h : doneAt w0 w V F A sb vb n sec R vo vr vs) (ho : ownsEl w' w0.heap.size vo' ok') (hg : w.grownBy w' vo.ownBlock) (hn : vo'.ownBlock = vo.ownBlock ∨ vo'.ownBlock = none ∨ ∃ b, vo'.ownBlock = some b ∧ w.heap.size ≤ b) :
    doneAt w0 w' V F (fun i => A i ∨ vo'.ownBlock = some i) sb vb n sec ⟨R.S, ok', R.rows⟩ vo' vr vs := by
  have stA : step w w' A A := .of_grown hg (fun j hj => (h.okA j hj).1)
  have hst : step w w' A (fun i => A i ∨ vo'.ownBlock = some i) := by
    refine stA.more ?_
    rintro i (hi | hi)
    · exact .inl hi
    · rcases hn with h1 | h1 | ⟨b, h1, h2⟩
      · rw [h1] at hi; exact .inl (h.okA i hi).1
      · rw [h1] at hi; cases hi
      · rw [h1] at hi; cases hi; exact .inr ⟨h2, (ho.base h1).2⟩
  refine ⟨h.st.trans hst, h.src.same (fun i hi => hg.block i (h.src.lt i hi) (fun e => (h.okA i e.symm).2 hi)) hg.size, fun i hi => .inl (h.sub i hi), ho, ?_, h.rws.kept hg (fun b hb e => (h.rwA b hb).2.2 e.symm), ?_, h.held.step hst⟩
  · intro b hb
    refine ⟨.inr hb, fun hF => ?_⟩
    rcases hn with h1 | h1 | ⟨c, h1, h2⟩
    · rw [h1] at hb; exact (h.okA b hb).2 hF
    · rw [h1] at hb; cases hb
    · obtain rfl : c = b := by rw [h1] at hb; injection hb
      have := h.src.lt c hF; omega
  · intro b hb
    refine ⟨.inl (h.rwA b hb).1, (h.rwA b hb).2.1, fun e => ?_⟩
    rcases hn with h1 | h1 | ⟨c, h1, h2⟩
    · rw [h1] at e; exact (h.rwA b hb).2.2 e
    · rw [h1] at e; cases e
    · rw [h1] at e; cases e; have := (h.rws.base hb).2; omega
/-- Rows are appended. -/
theorem doneAt.row {w0 w w' : World} {V F A : Blk} {sb vb n : Nat} {sec : ByteArray} {R : RunM} {vo vr vr' : Value} {vs : List Value} {v : Value} {r : List Cell} (h : doneAt w0 w V F A sb vb n sec R vo vr vs) (hr : rowHeld w A v r) (ho : ownsSl w' w0.heap.size vr' (vs ++ [v])) (hg : w.grownBy w' vr.ownBlock) (hn : vr'.ownBlock = vr.ownBlock ∨ vr'.ownBlock = none ∨ ∃ b, vr'.ownBlock = some b ∧ w.heap.size ≤ b) :
    doneAt w0 w' V F (fun i => A i ∨ vr'.ownBlock = some i) sb vb n sec ⟨R.S, R.ok, R.rows ++ [r]⟩ vo vr' (vs ++ [v]) := by
  have stA : step w w' A A := .of_grown hg (fun j hj => (h.rwA j hj).1)
  have hst : step w w' A (fun i => A i ∨ vr'.ownBlock = some i) := by
    refine stA.more ?_
    rintro i (hi | hi)
    · exact .inl hi
    · rcases hn with h1 | h1 | ⟨b, h1, h2⟩
      · rw [h1] at hi; exact .inl (h.rwA i hi).1
      · rw [h1] at hi; cases hi
      · rw [h1] at hi; cases hi; exact .inr ⟨h2, (ho.base h1).2⟩
  refine ⟨h.st.trans hst, h.src.same (fun i hi => hg.block i (h.src.lt i hi) (fun e => (h.rwA i e.symm).2.1 hi)) hg.size, fun i hi => .inl (h.sub i hi), h.oks.kept hg (fun b hb e => (h.rwA b e.symm).2.2 hb), fun b hb => ⟨.inl (h.okA b hb).1, (h.okA b hb).2⟩, ho, ?_, (h.held.snoc hr).step hst⟩
  intro b hb
  refine ⟨.inr hb, ?_⟩
  rcases hn with h1 | h1 | ⟨c, h1, h2⟩
  · rw [h1] at hb; exact (h.rwA b hb).2
  · rw [h1] at hb; cases hb
  · obtain rfl : c = b := by rw [h1] at hb; injection hb
    exact ⟨fun hF => by have := h.src.lt c hF; omega, fun e => by have := (h.oks.base e).2; omega⟩
theorem evsAt.row {w : World} {q : Option Addr} {l : List Ev} {j : Nat} {x : Ev} (h : evsAt w q l) (hj : l[j]? = some x) : ∃ g o, q = some ⟨g, o, none⟩ ∧ g < w.heap.size ∧ w.cell? ⟨g, o + j * 5, none⟩ = some (.int .i64 x.kind) ∧ w.cell? ⟨g, o + j * 5 + 1, none⟩ = some (.string x.subject) ∧ w.cell? ⟨g, o + j * 5 + 2, none⟩ = some (.string x.table) ∧ w.cell? ⟨g, o + j * 5 + 3, none⟩ = some (.string x.row) ∧ w.cell? ⟨g, o + j * 5 + 4, none⟩ = some (.string x.value) := by
  rcases h with rfl | ⟨g, o, hq, hg, h⟩
  · simp at hj
  · exact ⟨g, o, hq, hg, h j x hj 0 _ rfl, h j x hj 1 _ rfl, h j x hj 2 _ rfl, h j x hj 3 _ rfl, h j x hj 4 _ rfl⟩
theorem evsAt.at {w w' : World} {q : Option Addr} {l : List Ev} {n : Nat} (h : evsAt w q l) (hb : Below n w w') (hn : w.heap.size ≤ n) : evsAt w' q l := evsAt_of h (fun k hk => hb.block k (Nat.lt_of_lt_of_le hk hn)) hb.size
/-- The package's secret. -/
def secS : ByteArray := ⟨#[48, 49, 50, 51, 52, 53, 54, 55, 56, 57, 97, 98, 99, 100, 101, 102]⟩
theorem run_many_le (l : List Ev) (k : Nat) (s : ByteArray) : (runM secS (l.take k)).S.many s ≤ l.length ∧ (runM secS (l.take k)).S.L.length ≤ l.length := by
  have h := inv_run secS (l.take k)
  have h1 := h.cnt s
  have h2 := h.len
  have h3 := ok_len secS (l.take k)
  have h4 : (l.take k).length ≤ l.length := by rw [List.length_take]; omega
  omega
/-- What 'done' hands back. -/
def DonePost (w : World) (l : List Ev) (r : Ending) (w' : World) : Prop :=
  ∃ sb vb V F A vo vr vs, r = .returned (.tuple #[.pointer (some ⟨sb, 0, none⟩), vo, vr]) ∧ doneAt w w' V F A sb vb (3 * l.length) secS (runM secS l) vo vr vs
set_option maxRecDepth 100000 in
set_option maxHeartbeats 4000000 in
theorem done_any (q : Option Addr) (cp : Nat) (l : List Ev) (w : World) (hl : l.length ≤ 60) (hsz : ∀ e ∈ l, e.subject.size ≤ 1048576 ∧ e.table.size ≤ 1048576 ∧ e.row.size ≤ 1048576 ∧ e.value.size ≤ 1048576) (he : evsAt w q l) (hG : Glob w none0) :
    Calls Tryz.prog 11 #[.slice q l.length cp] w (DonePost w l) := by
  have HE := Lib.hid he
  have GG := Lib.hid hG
  have SN := snew_any secS w rfl
  unfold secS at SN
  have HP : Hid (∀ sb vb V F A vo vr vs w', doneAt w w' V F A sb vb (3 * l.length) secS (runM secS l) vo vr vs → DonePost w l (.returned (.tuple #[.pointer (some ⟨sb, 0, none⟩), vo, vr])) w') := Lib.hid fun sb vb V F A vo vr vs w' h => ⟨sb, vb, V, F, A, vo, vr, vs, rfl, h⟩
  generalize DonePost w l = P at HP ⊢
  clear he hG
  go_enter Tryz.func11, Tryz.ntmps11
  go_wp2_with fail
  refine SN.mono ?_
  rintro _ w1 ⟨sb, vb, V, F, rfl, hs, hst⟩
  have D1 := Lib.hid hs
  have T1 := Lib.hid hst
  clear hs hst SN
  go_wp2_with fail
  have D2 : doneAt w (w1.alloc (.cells #[.slice none 0 0] 41)) V F (fun i => F i ∨ i = w1.heap.size) sb vb 0 secS R0 (.slice none 0 0) (.slice (some ⟨w1.heap.size, 0, none⟩) 1 1) [.slice none 0 0] := by
    have hx := ext_alloc (.cells #[.slice none 0 0] 41) (ext_refl w1)
    refine ⟨(T1.out.trans (.of_ext F hx)).more (fun i hi => ?_), D1.out.ext hx, fun i hi => .inl hi, ownsEl_nil _ _, (fun g hg => by simp [Value.ownBlock] at hg), ⟨rfl, .inr ⟨w1.heap.size, 1, _, rfl, T1.out.size, heap_alloc_at w1 _, Nat.le_refl _, by decide, rfl, rfl⟩⟩, ?_, ?_⟩
    · rcases hi with hi | rfl
      · exact .inl hi
      · exact .inr ⟨T1.out.size, by simp⟩
    · intro g hg
      simp only [Value.ownBlock, Option.some.injEq] at hg
      subst hg
      exact ⟨.inr rfl, fun h => Nat.lt_irrefl _ (D1.out.lt _ h), by simp [Value.ownBlock]⟩
    · refine ⟨rfl, fun j v r h1 h2 => ?_⟩
      match j, h1, h2 with
      | 0, h1, h2 =>
        cases h1; cases h2
        exact ⟨none, 0, rfl, .inl rfl, fun a ha => by cases ha⟩
      | j + 1, h1, h2 => simp at h1
  have D2 := Lib.hid D2
  clear D1 T1
  generalize w1.alloc (.cells #[.slice none 0 0] 41) = w2 at D2 ⊢
  generalize w1.heap.size = rb at D2 ⊢
  go_loopw [9, 7, 8] (fun iv vo vr wr => ∃ (k : Nat) (F A : Blk) (vs : List Value), k ≤ l.length ∧ iv = .int .i64 k ∧ Hid (doneAt w wr V F A sb vb (3 * k) secS (runM secS (l.take k)) vo vr vs)) (fun iv _ _ _ => l.length - (intOf iv).toNat)
  case atStart => exact ⟨0, _, _, _, Nat.zero_le _, rfl, D2⟩
  case round =>
    clear D2
    obtain ⟨k, F, A, vs, hk, rfl, DA⟩ := hrel
    by_cases hlt : k < l.length
    · have hx := List.getElem?_eq_getElem hlt
      have hz := hsz _ (List.getElem_mem hlt)
      have RT := Lib.hid (runM_take secS l k _ hx)
      have HB := Lib.hid DA.out.st.below
      obtain ⟨g, o, rfl, hg, e0, e1, e2, e3, e4⟩ := (HE.out.at HB.out (Nat.le_refl _)).row hx
      have ML := run_many_le l k
      have GW := (GG.out.step DA.out.st).sub DA.out.sub
      have DO := sdo_any _ wr V F sb vb (3 * k) secS (runM secS (l.take k)).S DA.out.src GW ⟨hz.1, hz.2.1, hz.2.2.1⟩ hz.2.2.2 (by decide) (by omega) (by have := (ML l[k].subject).1; omega) (by have := (ML l[k].subject).2; omega)
      have OKL := Lib.hid (show (runM secS (l.take k)).ok.length ≤ 60 from by have := ok_len secS (l.take k); rw [List.length_take] at this; omega)
      have RSL := Lib.hid (show (runM secS (l.take k)).rows.length ≤ 1000 from by rw [(runs secS (l.take k)).rows, List.length_map, List.length_range]; have := OKL.out; omega)
      have ROW := Lib.hid (fun w' (hb : Below w.heap.size w w') => (HE.out.at hb (Nat.le_refl _)).row hx)
      clear GW ML hz
      generalize hR : runM secS (l.take k) = R at DO DA RT OKL RSL
      generalize l[k] = x at hx RT DO e0 e1 e2 e3 e4 ROW
      clear hR hx
      unfold DoPost at DO
      have hlt' : (k : Int) < l.length := by omega
      by_cases hX : doX R.S x = 0
      · rw [if_pos hX, if_pos hX] at DO
        unfold run1 at RT
        rw [if_pos hX] at RT
        generalize hrr : toldR secS R.S.many R.S.has R.S.L x = rr at DO
        clear hrr
        have HX := Lib.hid hX
        clear hX
        obtain ⟨x0, x1, x2, x3, x4⟩ := x
        obtain ⟨q0, u0, g0, p0, b0⟩ := rr
        unfold evV recV at DO
        dsimp only at DO e0 e1 e2 e3 e4
        go_wp2_with fail
        refine DO.mono ?_
        rintro _ w5 ⟨rfl, F', hs5, hst5⟩
        have D5 := Lib.hid ((DA.out.turn hs5 hst5).ext (ext_alloc (.cells #[.int .i64 q0, .string u0, .int .i64 g0, .string p0, .string b0] 55) (ext_refl w5)))
        have B5 := Lib.hid (DA.out.turn hs5 hst5).st.below
        have hR1 : (⟨(doS secS R.S ⟨x0, x1, x2, x3, x4⟩), R.ok ++ [⟨x0, x1, x2, x3, x4⟩], R.rows ++ [sortC (doS secS R.S ⟨x0, x1, x2, x3, x4⟩).T]⟩ : RunM) = runM secS (l.take (k + 1)) := RT.out.symm
        have HR1 := Lib.hid hR1
        clear hs5 hst5 DO DA e0 e1 e2 e3 e4 hR1 RT
        obtain ⟨g', o', hq, hg5, f0, f1, f2, f3, f4⟩ := ROW.out w5 B5.out
        obtain ⟨rfl, rfl⟩ : g' = g ∧ o' = o := by simp only [Option.some.injEq, Addr.mk.injEq, and_true] at hq; exact ⟨hq.1.symm, hq.2.symm⟩
        clear hq
        have s9 : (w5.alloc (.cells #[.int .i64 q0, .string u0, .int .i64 g0, .string p0, .string b0] 55)).heap.size = w5.heap.size + 1 := by simp
        have hb9 : w.heap.size ≤ (w5.alloc (.cells #[.int .i64 q0, .string u0, .int .i64 g0, .string p0, .string b0] 55)).heap.size := by have := B5.out.size; rw [s9]; omega
        have hok9 : R.ok.length ≤ 1099511627776 := by have := OKL.out; omega
        go_wp2_with (first | (go_at_call 99999; fail) | (at_builtin; go_must (refine append_ev2 w.heap.size u7 R.ok ⟨x0, x1, x2, x3, x4⟩ (.tmp 40) (.tmp 45) _ rfl rfl rfl (by rw [s9]; rfl) D5.out.oks hok9 hb9 ?_); intro v' w6 OWn g6 hn6))
        have D6 := Lib.hid (D5.out.more OWn g6 (by rcases hn6 with h | h; exact .inl h; exact .inr (.inr ⟨_, h, by simp⟩)))
        clear f0 f1 f2 f3 f4 D5 B5 OWn g6 hn6 s9 hb9 hok9
        refine (scells_any w6 V F' sb vb (3 * k + 3) secS _ D6.out.src (by omega)).mono ?_
        rintro _ w7 ⟨v7, rfl, ho7, _, hb7⟩
        have D7 := Lib.hid (D6.out.ext (ext_of hb7))
        have HH7 := rowHeld.of ho7 (A := fun i => (A i ∨ F' i) ∨ v'.ownBlock = some i) (fun i hi h => by
          rcases D6.out.st.sub i h with h1 | h1
          · exact h1
          · omega)
        obtain ⟨q7, cap7, rfl, hc7, hA7⟩ := HH7
        have HH7 := Lib.hid (show rowHeld w7 (fun i => (A i ∨ F' i) ∨ v'.ownBlock = some i) (.slice q7 _ cap7) _ from ⟨q7, cap7, rfl, hc7, hA7⟩)
        have hvl : vs.length ≤ 1048576 := by have := D7.out.held.1; have := RSL.out; dsimp only at *; omega
        have hb7' : w.heap.size ≤ w7.heap.size := D7.out.st.size
        clear ho7 hb7 hc7 hA7 D6
        go_wp2_with (at_builtin; go_must (refine append_sl w.heap.size u8 vs q7 _ cap7 (.tmp 47) (.tmp 50) _ rfl rfl rfl rfl D7.out.rws hvl hb7' ?_); intro v8 w8 OWn g8 hn8)
        have D8 := Lib.hid (D7.out.row HH7.out OWn g8 (by rcases hn8 with h | h; exact .inl h; exact .inr (.inr ⟨_, h, Nat.le_succ _⟩)))
        clear D7 HH7 OWn g8 hn8
        go_roundw
        case rel =>
          have FIN := D8.out.mono (by omega : 3 * k + 3 ≤ 3 * (k + 1))
          rw [HR1.out] at FIN
          exact ⟨k + 1, _, _, _, hlt, by go_num, Lib.hid FIN⟩
        case measure => simp [intOf]; omega
      · rw [if_neg hX, if_neg hX, doS_no hX] at DO
        unfold run1 at RT
        rw [if_neg hX] at RT
        generalize doX R.S x = xx at DO
        clear hX
        obtain ⟨x0, x1, x2, x3, x4⟩ := x
        unfold evV recV zeroR at DO
        dsimp only at DO e0 e1 e2 e3 e4
        go_wp2_with fail
        refine DO.mono ?_
        rintro _ w5 ⟨rfl, F', hs5, hst5⟩
        have D5 := Lib.hid ((DA.out.turn hs5 hst5).ext (ext_alloc (.cells #[.int .i64 0, .string ⟨#[]⟩, .int .i64 0, .string ⟨#[]⟩, .string ⟨#[]⟩] 55) (ext_refl w5)))
        have HR1 := Lib.hid RT.out
        clear hs5 hst5 DO DA e0 e1 e2 e3 e4 RT ROW
        go_wp2_with fail
        go_roundw
        case rel =>
          have FIN := D5.out.mono (by omega : 3 * k + 3 ≤ 3 * (k + 1))
          rw [← HR1.out] at FIN
          exact ⟨k + 1, _, _, _, hlt, by go_num, Lib.hid FIN⟩
        case measure => simp [intOf]; omega
    · obtain rfl : k = l.length := by omega
      rw [List.take_length] at DA
      go_wp2_with fail
      go_ret3
      exact HP.out _ _ _ _ _ _ _ _ _ DA.out
end Go.Proofs.YtgckpfeeioljeaaGreatDoor
