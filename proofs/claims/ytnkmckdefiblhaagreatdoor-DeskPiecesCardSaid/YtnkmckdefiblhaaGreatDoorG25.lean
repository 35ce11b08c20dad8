/- The last one is true: plain lemmas. No program. · oubliettekeep.few, TableLast's closures (the walks). · oubliettekeep.done (the walk): a source to which events happen. · slices.Equal at rows. · A source and a reader of it, side by side. · oublietteref.mix (printed by wip/bin/gen_mix.py), in, long. · Slices of whole numbers that a call makes itself: append, the elements. · oublietteref.in, long, words, Block (the walks). · oublietteref.Block (the walk). · oublietteref.Xor (the walk). · oubliettelaw.StreamBlocks (the walk). · desk: must, words (the walks): what is thrown. -/
import Derived.Test.YtnkmckdefiblhaaGreatDoorG1
import Derived.Test.YtnkmckdefiblhaaGreatDoorProg
import Derived.Test.YtnkmckdefiblhaaGreatDoorG20
import Derived.Test.YtnkmckdefiblhaaGreatDoorG23
import Derived.Test.YtnkmckdefiblhaaGreatDoorG17
import Derived.Test.YtnkmckdefiblhaaGreatDoorShelfT
import Derived.Shelf.SlicesQ.Equal
import Derived.Test.YtnkmckdefiblhaaGreatDoorG24
import Derived.Test.YtnkmckdefiblhaaGreatDoorG6
import Derived.Test.YtnkmckdefiblhaaGreatDoorG7
import Derived.Test.YtnkmckdefiblhaaGreatDoorG11
import Derived.Test.YtnkmckdefiblhaaGreatDoorG18
import Derived.WalkLawsBesides
namespace Go.Proofs.YtnkmckdefiblhaaGreatDoor

section
variable (ok : List UInt8 → Bool)
def foldT (l : List Ev) (T : List Cell) : List Cell := l.foldl (fun T e => applyT ok e T) T
/-- What may take that row away. -/
def hitsE (e : Ev) (c : Cell) : Bool :=
  rightE ok e && ((decide (e.kind = 1) && decide (ek e = ck c)) || (decide (txt e.subject = txt c.subject) && (decide (e.kind = 3) || (decide (e.kind = 2) && decide (ek e = ck c)))))
/-- No row is a subject's. -/
def freeOf (s : List UInt8) (T : List Cell) : Prop := ∀ c ∈ T, txt c.subject ≠ s
end
end Go.Proofs.YtnkmckdefiblhaaGreatDoor
namespace Go.Proofs.YtnkmckdefiblhaaGreatDoor
open Go.RowKit Go.Shelf Go.Lib

def longE (e : Ev) : Bool := decide ((40 : Int) < e.subject.size) || decide ((40 : Int) < e.table.size) || decide ((40 : Int) < e.row.size) || decide ((60 : Int) < e.value.size)
def fewB (l : List Ev) : Bool := decide ((l.length : Int) ≤ 30) && !l.any longE
end Go.Proofs.YtnkmckdefiblhaaGreatDoor
namespace Go.Proofs.YtnkmckdefiblhaaGreatDoor
open Go.RowKit Go.Shelf

/-! ### Slices of slices of rows -/
def ownsSl (w : World) (base : Nat) (v : Value) (vs : List Value) : Prop := w.ownsRow base 27 1 v vs.length vs
theorem ownsSl.kept {w w' : World} {base : Nat} {v : Value} {l : List Value} {row : Option Nat} (h : ownsSl w base v l) (hg : w.grownBy w' row) (hne : ∀ g, v.ownBlock = some g → some g ≠ row) : ownsSl w' base v l := by
  obtain ⟨h1, ⟨rfl, h2⟩ | ⟨g, cap, cur, rfl, hb, hh, h3⟩⟩ := h
  · exact ⟨h1, .inl ⟨rfl, h2⟩⟩
  · exact ⟨h1, .inr ⟨g, cap, cur, rfl, hb, (hg.block g (lt_of_heap hh) (hne g rfl)).trans hh, h3⟩⟩
theorem ownsSl.base {w : World} {base : Nat} {v : Value} {l : List Value} (h : ownsSl w base v l) {g : Nat} (hg : v.ownBlock = some g) : base ≤ g ∧ g < w.heap.size := by
  obtain ⟨h1, ⟨rfl, h2⟩ | ⟨g', cap, cur, rfl, hb, hh, h3⟩⟩ := h
  · simp [Value.ownBlock] at hg
  · simp only [Value.ownBlock, Option.some.injEq] at hg
    subst hg
    exact ⟨hb, lt_of_heap hh⟩
section
variable {ops : Array Oper} {rest : List Oper} {o : Oper} {a : Act} {w : World} {Q : Exit → Act → World → Prop}
end
/-! ### What 'done' has -/
/-- A slice of rows that nobody writes. -/
def rowHeld (w : World) (A : Blk) (v : Value) (r : List Cell) : Prop := ∃ q cap, v = .slice q r.length cap ∧ cellsIn w q r ∧ ∀ a, q = some a → ¬ A a.block ∧ a.block < w.heap.size
theorem cellsIn_same {w w' : World} {q : Option Addr} {l : List Cell} (h : cellsIn w q l) (hk : ∀ a, q = some a → w'.heap[a.block]? = w.heap[a.block]?) (hs : w.heap.size ≤ w'.heap.size) : cellsIn w' q l := by
  rcases h with h | ⟨g, hq, hg, hc⟩
  · exact .inl h
  · refine .inr ⟨g, hq, Nat.lt_of_lt_of_le hg hs, fun j hj i v hi => ?_⟩
    have := hc j hj i v hi
    rw [cell_in] at this ⊢
    rw [hk _ hq]; exact this
theorem rowHeld.step {w w' : World} {A A' : Blk} {v : Value} {r : List Cell} (h : rowHeld w A v r) (g : Go.Proofs.YtnkmckdefiblhaaGreatDoor.step w w' A A') : rowHeld w' A' v r := by
  obtain ⟨q, cap, h1, h2, h3⟩ := h
  refine ⟨q, cap, h1, cellsIn_same h2 (fun a ha => (g.keep (h3 a ha).2 (h3 a ha).1).1) g.size, fun a ha => ?_⟩
  obtain ⟨_, k2, k3⟩ := g.keep (h3 a ha).2 (h3 a ha).1
  exact ⟨k3, k2⟩
theorem rowHeld.of {w : World} {A : Blk} {base : Nat} {v : Value} {r : List Cell} (h : ownsCl w base v r) (hA : ∀ i, base ≤ i → ¬ A i) : rowHeld w A v r := by
  obtain ⟨q, cap, rfl⟩ : ∃ q cap, v = .slice q r.length cap := by
    obtain ⟨_, ⟨h1, h2⟩ | ⟨g, cap, cur, h1, _⟩⟩ := h
    · exact ⟨none, 0, by rw [h1, h2]⟩
    · exact ⟨some ⟨g, 0, none⟩, cap, h1⟩
  refine ⟨q, cap, rfl, (cellsIn_of h).1, fun a ha => ?_⟩
  have := h.base (g := a.block) (by rw [ha]; rfl)
  exact ⟨hA _ this.1, this.2⟩
/-- A list of such slices. -/
def rowsHeld (w : World) (A : Blk) (vs : List Value) (rs : List (List Cell)) : Prop := vs.length = rs.length ∧ ∀ (j : Nat) v r, vs[j]? = some v → rs[j]? = some r → rowHeld w A v r
theorem rowsHeld.step {w w' : World} {A A' : Blk} {vs : List Value} {rs : List (List Cell)} (h : rowsHeld w A vs rs) (g : Go.Proofs.YtnkmckdefiblhaaGreatDoor.step w w' A A') : rowsHeld w' A' vs rs :=
  ⟨h.1, fun j v r h1 h2 => (h.2 j v r h1 h2).step g⟩
theorem rowsHeld.snoc {w : World} {A : Blk} {vs : List Value} {rs : List (List Cell)} {v : Value} {r : List Cell} (h : rowsHeld w A vs rs) (g : rowHeld w A v r) : rowsHeld w A (vs ++ [v]) (rs ++ [r]) := by
  refine ⟨by simp [h.1], fun j x y h1 h2 => ?_⟩
  by_cases hj : j < vs.length
  · rw [List.getElem?_append_left hj] at h1
    rw [List.getElem?_append_left (by rw [← h.1]; exact hj)] at h2
    exact h.2 j x y h1 h2
  · rw [List.getElem?_append_right (by omega)] at h1
    rw [List.getElem?_append_right (by rw [← h.1]; omega)] at h2
    have h3 := (List.getElem?_eq_some_iff.1 h1).1
    have : j - vs.length = 0 := by simp at h3; omega
    rw [this] at h1
    rw [← h.1, this] at h2
    simp only [List.getElem?_cons_zero, Option.some.injEq] at h1 h2
    rw [← h1, ← h2]; exact g
/-- What stands in memory as 'done' goes on. A: all blocks that may yet be written. -/
structure doneAt (w0 w : World) (V F A : Blk) (sb vb n : Nat) (sec : ByteArray) (R : RunM) (vo vr : Value) (vs : List Value) : Prop where
  st : step w0 w none0 A
  src : srcIn w V F sb vb n sec R.S
  sub : ∀ i, F i → A i
  oks : ownsEl w w0.heap.size vo R.ok
  okA : ∀ g, vo.ownBlock = some g → A g ∧ ¬ F g
  rws : ownsSl w w0.heap.size vr vs
  rwA : ∀ g, vr.ownBlock = some g → A g ∧ ¬ F g ∧ vo.ownBlock ≠ some g
  held : rowsHeld w A vs R.rows
theorem doneAt.ext {w0 w w' : World} {V F A : Blk} {sb vb n : Nat} {sec : ByteArray} {R : RunM} {vo vr : Value} {vs : List Value} (h : doneAt w0 w V F A sb vb n sec R vo vr vs) (hx : ∃ x, w' = Go.Proofs.YtnkmckdefiblhaaGreatDoor.ext w x) : doneAt w0 w' V F A sb vb n sec R vo vr vs :=
  have hg := grown_below (ext_iff.1 hx) none
  ⟨h.st.trans (.of_ext A hx), h.src.ext hx, h.sub, h.oks.kept hg (by simp), h.okA, h.rws.kept hg (by simp), h.rwA, h.held.step (.of_ext A hx)⟩
theorem doneAt.mono {w0 w : World} {V F A : Blk} {sb vb n n' : Nat} {sec : ByteArray} {R : RunM} {vo vr : Value} {vs : List Value} (h : doneAt w0 w V F A sb vb n sec R vo vr vs) (hn : n ≤ n') : doneAt w0 w V F A sb vb n' sec R vo vr vs :=
  ⟨h.st, h.src.mono hn, h.sub, h.oks, h.okA, h.rws, h.rwA, h.held⟩
/-- The source turns. -/
theorem doneAt.turn {w0 w w' : World} {V F F' A : Blk} {sb vb n n' : Nat} {sec : ByteArray} {R : RunM} {S : SrcM} {vo vr : Value} {vs : List Value} (h : doneAt w0 w V F A sb vb n sec R vo vr vs) (hs : srcIn w' V F' sb vb n' sec S) (g : step w w' F F') :
    doneAt w0 w' V F' (fun i => A i ∨ F' i) sb vb n' sec ⟨S, R.ok, R.rows⟩ vo vr vs := by
  have gl := g.lift h.sub
  have nF : ∀ i, i < w.heap.size → ¬ F i → w'.heap[i]? = w.heap[i]? ∧ ¬ F' i := fun i hi hn => ⟨(g.keep hi hn).1, (g.keep hi hn).2.2⟩
  have hgr : ∀ v : Value, (∀ b, v.ownBlock = some b → b < w.heap.size ∧ ¬ F b) → ∀ b, v.ownBlock = some b → w'.heap[b]? = w.heap[b]? := fun v hv b hb => (nF b (hv b hb).1 (hv b hb).2).1
  refine ⟨h.st.trans gl, hs, fun i hi => .inr hi, ?_, fun b hb => ⟨.inl (h.okA b hb).1, (nF b (h.oks.base hb).2 (h.okA b hb).2).2⟩, ?_, fun b hb => ⟨.inl (h.rwA b hb).1, (nF b (h.rws.base hb).2 (h.rwA b hb).2.1).2, (h.rwA b hb).2.2⟩, h.held.step gl⟩
  · obtain ⟨h1, ⟨h2, h3⟩ | ⟨b, cap, cur, hv, hb, hh, h3⟩⟩ := h.oks
    · exact ⟨h1, .inl ⟨h2, h3⟩⟩
    · exact ⟨h1, .inr ⟨b, cap, cur, hv, hb, ((nF b (lt_of_heap hh) (h.okA b (by rw [hv]; rfl)).2).1).trans hh, h3⟩⟩
  · obtain ⟨h1, ⟨h2, h3⟩ | ⟨b, cap, cur, hv, hb, hh, h3⟩⟩ := h.rws
    · exact ⟨h1, .inl ⟨h2, h3⟩⟩
    · exact ⟨h1, .inr ⟨b, cap, cur, hv, hb, ((nF b (lt_of_heap hh) (h.rwA b (by rw [hv]; rfl)).2.1).1).trans hh, h3⟩⟩
/-- An event is appended. -/
theorem doneAt.more {w0 w w' : World} {V F A : Blk} {sb vb n : Nat} {sec : ByteArray} {R : RunM} {vo vr vo' : Value} {vs : List Value} {ok' : List Ev} (h : doneAt w0 w V F A sb vb n sec R vo vr vs) (ho : ownsEl w' w0.heap.size vo' ok') (hg : w.grownBy w' vo.ownBlock) (hn : vo'.ownBlock = vo.ownBlock ∨ vo'.ownBlock = none ∨ ∃ b, vo'.ownBlock = some b ∧ w.heap.size ≤ b) :
    doneAt w0 w' V F (fun i => A i ∨ vo'.ownBlock = some i) sb vb n sec ⟨R.S, ok', R.rows⟩ vo' vr vs := by
  have stA : step w w' A A := .of_grown hg (fun j hj => (h.okA j hj).1)
  have hst : step w w' A (fun i => A i ∨ vo'.ownBlock = some i) := by
    refine stA.more ?_
    rintro i (hi | hi)
    · exact .inl hi
    · rcases hn with h1 | h1 | ⟨b, h1, h2⟩
      · rw [h1] at hi; exact .inl (h.okA i hi).1
      · rw [h1] at hi; cases hi
      · rw [h1] at hi; cases hi; exact .inr ⟨h2, (ho.base h1).2⟩
  refine ⟨h.st.trans hst, h.src.same (fun i hi => hg.block i (h.src.lt i hi) (fun e => (h.okA i e.symm).2 hi)) hg.size, fun i hi => .inl (h.sub i hi), ho, ?_, h.rws.kept hg (fun b hb e => (h.rwA b hb).2.2 e.symm), ?_, h.held.step hst⟩
  · intro b hb
    refine ⟨.inr hb, fun hF => ?_⟩
    rcases hn with h1 | h1 | ⟨c, h1, h2⟩
    · rw [h1] at hb; exact (h.okA b hb).2 hF
    · rw [h1] at hb; cases hb
    · obtain rfl : c = b := by rw [h1] at hb; injection hb
      have := h.src.lt c hF; omega
  · intro b hb
    refine ⟨.inl (h.rwA b hb).1, (h.rwA b hb).2.1, fun e => ?_⟩
    rcases hn with h1 | h1 | ⟨c, h1, h2⟩
    · rw [h1] at e; exact (h.rwA b hb).2.2 e
    · rw [h1] at e; cases e
    · rw [h1] at e; cases e; have := (h.rws.base hb).2; omega
/-- Rows are appended. -/
theorem doneAt.row {w0 w w' : World} {V F A : Blk} {sb vb n : Nat} {sec : ByteArray} {R : RunM} {vo vr vr' : Value} {vs : List Value} {v : Value} {r : List Cell} (h : doneAt w0 w V F A sb vb n sec R vo vr vs) (hr : rowHeld w A v r) (ho : ownsSl w' w0.heap.size vr' (vs ++ [v])) (hg : w.grownBy w' vr.ownBlock) (hn : vr'.ownBlock = vr.ownBlock ∨ vr'.ownBlock = none ∨ ∃ b, vr'.ownBlock = some b ∧ w.heap.size ≤ b) :
    doneAt w0 w' V F (fun i => A i ∨ vr'.ownBlock = some i) sb vb n sec ⟨R.S, R.ok, R.rows ++ [r]⟩ vo vr' (vs ++ [v]) := by
  have stA : step w w' A A := .of_grown hg (fun j hj => (h.rwA j hj).1)
  have hst : step w w' A (fun i => A i ∨ vr'.ownBlock = some i) := by
    refine stA.more ?_
    rintro i (hi | hi)
    · exact .inl hi
    · rcases hn with h1 | h1 | ⟨b, h1, h2⟩
      · rw [h1] at hi; exact .inl (h.rwA i hi).1
      · rw [h1] at hi; cases hi
      · rw [h1] at hi; cases hi; exact .inr ⟨h2, (ho.base h1).2⟩
  refine ⟨h.st.trans hst, h.src.same (fun i hi => hg.block i (h.src.lt i hi) (fun e => (h.rwA i e.symm).2.1 hi)) hg.size, fun i hi => .inl (h.sub i hi), h.oks.kept hg (fun b hb e => (h.rwA b e.symm).2.2 hb), fun b hb => ⟨.inl (h.okA b hb).1, (h.okA b hb).2⟩, ho, ?_, (h.held.snoc hr).step hst⟩
  intro b hb
  refine ⟨.inr hb, ?_⟩
  rcases hn with h1 | h1 | ⟨c, h1, h2⟩
  · rw [h1] at hb; exact (h.rwA b hb).2
  · rw [h1] at hb; cases hb
  · obtain rfl : c = b := by rw [h1] at hb; injection hb
    exact ⟨fun hF => by have := h.src.lt c hF; omega, fun e => by have := (h.oks.base e).2; omega⟩
theorem evsAt.row {w : World} {q : Option Addr} {l : List Ev} {j : Nat} {x : Ev} (h : evsAt w q l) (hj : l[j]? = some x) : ∃ g o, q = some ⟨g, o, none⟩ ∧ g < w.heap.size ∧ w.cell? ⟨g, o + j * 5, none⟩ = some (.int .i64 x.kind) ∧ w.cell? ⟨g, o + j * 5 + 1, none⟩ = some (.string x.subject) ∧ w.cell? ⟨g, o + j * 5 + 2, none⟩ = some (.string x.table) ∧ w.cell? ⟨g, o + j * 5 + 3, none⟩ = some (.string x.row) ∧ w.cell? ⟨g, o + j * 5 + 4, none⟩ = some (.string x.value) := by
  rcases h with rfl | ⟨g, o, hq, hg, h⟩
  · simp at hj
  · exact ⟨g, o, hq, hg, h j x hj 0 _ rfl, h j x hj 1 _ rfl, h j x hj 2 _ rfl, h j x hj 3 _ rfl, h j x hj 4 _ rfl⟩
theorem evsAt.at {w w' : World} {q : Option Addr} {l : List Ev} {n : Nat} (h : evsAt w q l) (hb : Below n w w') (hn : w.heap.size ≤ n) : evsAt w' q l := evsAt_of h (fun k hk => hb.block k (Nat.lt_of_lt_of_le hk hn)) hb.size
/-- The package's secret. -/
def secS : ByteArray := ⟨#[48, 49, 50, 51, 52, 53, 54, 55, 56, 57, 97, 98, 99, 100, 101, 102]⟩
/-- What 'done' hands back. -/
def DonePost (w : World) (l : List Ev) (r : Ending) (w' : World) : Prop :=
  ∃ sb vb V F A vo vr vs, r = .returned (.tuple #[.pointer (some ⟨sb, 0, none⟩), vo, vr]) ∧ doneAt w w' V F A sb vb (3 * l.length) secS (runM secS l) vo vr vs
end Go.Proofs.YtnkmckdefiblhaaGreatDoor
namespace Go.Proofs.YtnkmckdefiblhaaGreatDoor
open Go.RowKit Go.Shelf Go.Lib

end Go.Proofs.YtnkmckdefiblhaaGreatDoor
namespace Go.Proofs.YtnkmckdefiblhaaGreatDoor
open Go.RowKit Go.Shelf

/-- Read, at the record that comes next. -/
theorem read_next (x : Rec) (e : Ev) (w : World) (V D : Blk) (rb vb n nv : Nat) (sec : ByteArray) (many : ByteArray → Nat) (has : ByteArray → Bool) (R : RdM) (h : rdIn w D rb vb n R) (hv : vaultIn w V vb nv sec many has) (hG : Glob w (fun i => V i ∨ D i)) (ha : apart V D)
    (ht : isTold sec x e) (hm : x.gen ≤ (many x.subject : Nat)) (h1 : x.seq = R.seq + 1) (h2 : x.prev = R.mark) (hn : n ≤ 1048576) (hsq : R.seq < 1048576) :
    Calls Tryz.prog 66 #[.pointer (some ⟨rb, 0, none⟩), .agg (recV x)] w fun r w' => r = .returned .nilIface ∧ ∃ D', rdIn w' D' rb vb (n + 1) (readM many has R x e) ∧ step w w' D D' := by
  cases hl : lostR many has x with
  | true => exact read_lost x e w V D rb vb n nv sec many has R h hv hG ha ht hm h1 h2 hn hsq hl
  | false => exact read_kept x e w V D rb vb n nv sec many has R h hv hG ha ht hm h1 h2 hn hsq hl
structure twoIn (w0 w : World) (V F D : Blk) (sb vb rb n m : Nat) (S : SrcM) (R : RdM) : Prop where
  st : step w0 w none0 (fun i => F i ∨ D i)
  src : srcIn w V F sb vb n secS S
  rdr : rdIn w D rb vb m R
  ap : apart F D
theorem twoIn.ext {w0 w w' : World} {V F D : Blk} {sb vb rb n m : Nat} {S : SrcM} {R : RdM} (h : twoIn w0 w V F D sb vb rb n m S R) (hx : ∃ x, w' = Go.Proofs.YtnkmckdefiblhaaGreatDoor.ext w x) : twoIn w0 w' V F D sb vb rb n m S R :=
  ⟨h.st.trans (.of_ext _ hx), h.src.ext hx, h.rdr.ext hx, h.ap⟩
theorem twoIn.mono {w0 w : World} {V F D : Blk} {sb vb rb n m n' m' : Nat} {S : SrcM} {R : RdM} (h : twoIn w0 w V F D sb vb rb n m S R) (h1 : n ≤ n') (h2 : m ≤ m') : twoIn w0 w V F D sb vb rb n' m' S R :=
  ⟨h.st, h.src.mono h1, h.rdr.mono h2, h.ap⟩
theorem twoIn.turn {w0 w w' : World} {V F F' D : Blk} {sb vb rb n n' m : Nat} {S S' : SrcM} {R : RdM} (h : twoIn w0 w V F D sb vb rb n m S R) (hs : srcIn w' V F' sb vb n' secS S') (g : step w w' F F') : twoIn w0 w' V F' D sb vb rb n' m S' R :=
  ⟨h.st.trans ((g.lift (A := fun i => F i ∨ D i) (fun _ hi => .inl hi)).more (fun _ hi => hi.elim (fun h => .inl (.inr h)) (fun h => .inl (.inl (.inr h))))), hs, h.rdr.step g h.ap, g.apart h.ap h.rdr.lt⟩
theorem twoIn.read {w0 w w' : World} {V F D D' : Blk} {sb vb rb n m m' : Nat} {S : SrcM} {R R' : RdM} (h : twoIn w0 w V F D sb vb rb n m S R) (hr : rdIn w' D' rb vb m' R') (g : step w w' D D') : twoIn w0 w' V F D' sb vb rb n m' S R' :=
  ⟨h.st.trans ((g.lift (A := fun i => F i ∨ D i) (fun _ hi => .inr hi)).more (fun _ hi => hi.elim (fun h => .inl (.inl (.inl h))) (fun h => .inl (.inr h)))), h.src.step g h.ap.symm, hr, (g.apart h.ap.symm h.src.lt).symm⟩
theorem rows_shape {w : World} {base : Nat} {v : Value} {l : List Cell} (h : ownsCl w base v l) : ∃ q cap, v = .slice q l.length cap := by
  obtain ⟨_, ⟨h1, h2⟩ | ⟨g, cap, cur, h1, _⟩⟩ := h
  · exact ⟨none, 0, by rw [h1, h2]⟩
  · exact ⟨some ⟨g, 0, none⟩, cap, h1⟩
theorem stepT_len (e : Ev) (T : List Cell) : (stepT e T).length ≤ T.length + 1 := by
  unfold stepT putT delT goneT
  split
  · rw [List.length_cons]
    exact Nat.succ_le_succ (List.length_filter_le _ _)
  · split
    · split
      · exact Nat.le_succ_of_le (List.length_filter_le _ _)
      · exact Nat.le_succ _
    · exact Nat.le_succ_of_le (List.length_filter_le _ _)
/-! ### The reader of all that is told -/
def rdSame (R : RunM) : RdM := ⟨R.ok.length, headR R.S.L, R.S.T, 0⟩
end Go.Proofs.YtnkmckdefiblhaaGreatDoor
namespace Go.Proofs.YtnkmckdefiblhaaGreatDoor
open Go.RowKit

/-! ### A row of words with something behind it -/
def rowS (n : Nat) (A : Nat → BitVec 32) (sp : Array Value) : Array Value := row32 n A ++ sp
/-! ### left -/
end Go.Proofs.YtnkmckdefiblhaaGreatDoor
namespace Go.Proofs.YtnkmckdefiblhaaGreatDoor
open Go.RowKit

/-- Numbers as cells. -/
def numsV (K : IntKind) (l : List Nat) : List Value := l.map fun n => .int K (n : Nat)
/-- The slice 'v', the call's own (its block lies from 'base' on), holds the numbers 'l'. -/
def ownsN (w : World) (base : Nat) (E : TypeId) (K : IntKind) (v : Value) (l : List Nat) : Prop := w.ownsRow base E 1 v l.length (numsV K l)
section
variable {P : Program} {ops : Array Oper} {rest : List Oper} {o : Oper} {a : Act} {w : World} {Q : Exit → Act → World → Prop}
end
end Go.Proofs.YtnkmckdefiblhaaGreatDoor
namespace Go.Proofs.YtnkmckdefiblhaaGreatDoor
open Go.RowKit

/-- The first m words. -/
def wordsL (l : List UInt8) (m : Nat) : List Nat := (List.range m).map fun i => (wordAt l (4 * i)).toNat
def WordsPost (l : List UInt8) (m : Nat) (w : World) (r : Ending) (w' : World) : Prop := ∃ v, r = .returned v ∧ ownsN w' w.heap.size 92 .u32 v (wordsL l m) ∧ ∃ x, w' = ext w x

end Go.Proofs.YtnkmckdefiblhaaGreatDoor
namespace Go.Proofs.YtnkmckdefiblhaaGreatDoor
open Go.RowKit

def exp16 : List UInt8 := [101, 120, 112, 97, 110, 100, 32, 51, 50, 45, 98, 121, 116, 101, 32, 107]
def lst16 (A : Nat → BitVec 32) : List Nat := (List.range 16).map fun j => (A j).toNat
/-- A round of the reference's: columns, diagonals, in turn. -/
def half (k : Nat) (A : Nat → BitVec 32) (i : Nat) : Nat → BitVec 32 := if k % 2 = 1 then diags A i else cols A i
def halves (A : Nat → BitVec 32) : Nat → (Nat → BitVec 32)
  | 0 => A
  | k + 1 => half k (halves A k) 4
end Go.Proofs.YtnkmckdefiblhaaGreatDoor
namespace Go.Proofs.YtnkmckdefiblhaaGreatDoor
open Go.RowKit

/-- The first m blocks, from number 1 on. -/
def blocksB (key nonce : List UInt8) (m : Nat) : List UInt8 := (List.range m).flatMap fun j => block key (1 + j) nonce
end Go.Proofs.YtnkmckdefiblhaaGreatDoor
namespace Go.Proofs.YtnkmckdefiblhaaGreatDoor
open Go.RowKit

/-- An Errno as an error. -/
def errOf (e : Int) : Value := if e = 0 then .nilIface else errV e
def okB (key nonce : ByteArray) (n : Int) : Prop := key.size = 32 ∧ nonce.size = 12 ∧ 0 ≤ n ∧ n < 4294967296
instance (key nonce : ByteArray) (n : Int) : Decidable (okB key nonce n) := by unfold okB; exact inferInstance
/-- What a block is, and what is wrong. -/
def blockR (key : ByteArray) (n : Int) (nonce : ByteArray) : List UInt8 × Int := if okB key nonce n then (block key.data.toList n.toNat nonce.data.toList, 0) else ([], 1)
/-- What a text is together with blocks, and what is wrong. -/
def xorR (key nonce s : ByteArray) : List UInt8 × Int := if key.size = 32 ∧ nonce.size = 12 then (xorB key.data.toList nonce.data.toList s.data.toList, 0) else ([], 1)
end Go.Proofs.YtnkmckdefiblhaaGreatDoor
namespace Go.Proofs.YtnkmckdefiblhaaGreatDoor
open Go.RowKit

/-- What is thrown. -/
def thrown (n : Int) : List PanicEntry := [{ v := .iface 55 (.agg #[.int .i64 n]), recovered := false }]
set_option maxRecDepth 100000 in
set_option maxHeartbeats 2000000 in
theorem must_ok (w : World) : Calls Tryz.prog 14 #[.nilIface] w fun e w' => e = .returned (.tuple #[]) ∧ w = w' := by
  go_enter Tryz.func14, Tryz.ntmps14
  go_wp2_with fail
  go_end0
  exact ⟨rfl, rfl⟩
set_option maxRecDepth 100000 in
set_option maxHeartbeats 2000000 in
theorem must_bad (n : Int) (w : World) (hE : ErrT w) : Calls Tryz.prog 14 #[errV n] w fun e w' => e = .panicked (thrown n) ∧ ∃ x, w' = ext w x := by
  have EE := Lib.hid hE
  clear hE
  unfold errV
  go_enter Tryz.func14, Tryz.ntmps14
  go_wp2_with fail
  refine (tell_any _ (.no n) _ EE.out).mono ?_
  rintro _ w1 ⟨rfl, hx⟩
  have X := Lib.hid hx
  clear hx
  go_wp2_with fail
  exact ⟨rfl, rfl, X.out⟩
set_option maxRecDepth 100000 in
set_option maxHeartbeats 2000000 in
theorem dwords_any (q : Option Addr) (l c : Nat) (n : Int) (w : World) (hE : ErrT w) : Calls Tryz.prog 11 #[.slice q l c, .int .i64 n] w fun e w' => ((l : Int) = n → e = .returned (.tuple #[])) ∧ ((l : Int) ≠ n → e = .panicked (thrown 3)) ∧ ∃ x, w' = ext w x := by
  have EE := Lib.hid hE
  clear hE
  by_cases h : (l : Int) = n
  · subst h
    go_enter Tryz.func11, Tryz.ntmps11
    go_wp2_with fail
    go_end0
    exact ⟨fun _ => rfl, fun h => absurd rfl h, ext_refl _⟩
  · have hb : ((l : Int) != n) = true := by simp [h]
    have HN := Lib.hid h
    clear h
    have MB := fun w hE => must_bad 3 w hE
    unfold errV at MB
    go_enter Tryz.func11, Tryz.ntmps11
    go_wp2_with fail
    refine (MB _ EE.out).mono ?_
    rintro _ w1 ⟨rfl, hx⟩
    have X := Lib.hid hx
    clear hx MB
    go_wp2_with fail
    exact ⟨rfl, fun h => absurd h HN.out, fun _ => rfl, X.out⟩
end Go.Proofs.YtnkmckdefiblhaaGreatDoor
