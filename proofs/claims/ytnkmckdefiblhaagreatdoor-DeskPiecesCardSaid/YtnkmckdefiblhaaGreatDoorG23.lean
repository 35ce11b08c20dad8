/- source.Do (the walk). -/
import Derived.Test.YtnkmckdefiblhaaGreatDoorProg
import Derived.Test.YtnkmckdefiblhaaGreatDoorG22
import Derived.Test.YtnkmckdefiblhaaGreatDoorG17
namespace Go.Proofs.YtnkmckdefiblhaaGreatDoor
open Go.RowKit Go.Shelf

/-- A struct that is laid, then filled. -/
def newA (ty : TypeId) (w2 : World) (x0 x1 : Array Value) (made done : Bool) (pv : Value) (w : World) : Prop :=
  Below w2.heap.size w2 w ∧ (done = true → made = true) ∧ (made = true → ∃ p, pv = .pointer (some ⟨p, 0, none⟩) ∧ w2.heap.size ≤ p ∧ w.heap[p]? = some (.cells (if done = true then x1 else x0) ty (0, 0)))
theorem newA.start (ty : TypeId) (w2 : World) (x0 x1 : Array Value) (pv : Value) : newA ty w2 x0 x1 false false pv { w2 with drawn := w2.drawn + 1 } :=
  ⟨(Below.refl _ _).drew, fun h => h, (fun h => by cases h)⟩
theorem newA.ext {ty : TypeId} {w2 w w' : World} {x0 x1 : Array Value} {made done : Bool} {pv : Value} (h : newA ty w2 x0 x1 made done pv w) (hx : ∃ x, w' = Go.Proofs.YtnkmckdefiblhaaGreatDoor.ext w x) : newA ty w2 x0 x1 made done pv w' := by
  have hb := ext_iff.1 hx
  refine ⟨h.1.trans (hb.mono h.1.size), h.2.1, fun hm => ?_⟩
  obtain ⟨p, h1, h2, h3⟩ := h.2.2 hm
  exact ⟨p, h1, h2, (hb.block _ (lt_of_heap h3)).trans h3⟩
theorem newA.made {ty : TypeId} {w2 w : World} {x0 x1 : Array Value} {m d : Bool} {pv : Value} (h : newA ty w2 x0 x1 m d pv w) (hm : m = false) : newA ty w2 x0 x1 true d (.pointer (some ⟨w.heap.size, 0, none⟩)) (w.alloc (.cells x0 ty)) := by
  have hd : d = false := by
    cases d with
    | false => rfl
    | true => have := h.2.1 rfl; rw [hm] at this; cases this
  subst hd
  exact ⟨h.1.alloc h.1.size _, (fun h => by cases h), fun _ => ⟨_, rfl, h.1.size, heap_alloc_at w _⟩⟩
/-- A whole row is stored. -/
theorem setC4 {w : World} {b : Nat} {v0 v1 v2 v3 : Value} {t : TypeId} (h : w.heap[b]? = some (.cells #[v0, v1, v2, v3] t (0, 0))) (x0 x1 x2 x3 : Value) :
    ((((w.setCell ⟨b, 0, none⟩ x0).setCell ⟨b, 1, none⟩ x1).setCell ⟨b, 2, none⟩ x2).setCell ⟨b, 3, none⟩ x3).heap[b]? = some (.cells #[x0, x1, x2, x3] t (0, 0)) ∧
    w.grownBy ((((w.setCell ⟨b, 0, none⟩ x0).setCell ⟨b, 1, none⟩ x1).setCell ⟨b, 2, none⟩ x2).setCell ⟨b, 3, none⟩ x3) (some b) :=
  ⟨heap_setCell (heap_setCell (heap_setCell (heap_setCell h _) _) _) _, (((grown_setCell _ _ _ _).trans (grown_setCell _ _ _ _)).trans (grown_setCell _ _ _ _)).trans (grown_setCell _ _ _ _)⟩
theorem newA.put {ty : TypeId} {w2 w w' : World} {x0 x1 : Array Value} {m d : Bool} {pv : Value} {p : Nat} (h : newA ty w2 x0 x1 m d pv w) (hm : m = true) (hp : pv = .pointer (some ⟨p, 0, none⟩)) (hb : w'.heap[p]? = some (.cells x1 ty (0, 0))) (hg : w.grownBy w' (some p)) : newA ty w2 x0 x1 m true pv w' := by
  obtain ⟨p', e1, e2, e3⟩ := h.2.2 hm
  have e4 := hp.symm.trans e1
  simp only [Value.pointer.injEq, Option.some.injEq, Addr.mk.injEq, and_true] at e4
  subst e4
  exact ⟨h.1.grown hg h.1.size (fun j e => by cases e; exact e2), fun _ => hm, fun _ => ⟨p, hp, e2, by rw [if_pos rfl]; exact hb⟩⟩
def frD1 (sb : Nat) (eb : Nat) (zb : Nat) (k : Int) (u : ByteArray) (t : ByteArray) (r : ByteArray) (v0 : ByteArray) (g : Nat → Value) : Act := { tmps := #[.pointer (some ⟨sb, 0, none⟩), .agg #[.int .i64 k, .string u, .string t, .string r, .string v0], undef, .pointer (some ⟨eb, 0, none⟩), .pointer (some ⟨zb, 0, none⟩), .nilIface, g 6, g 7, undef, undef, undef, g 11, g 12, g 13, g 14, g 15, g 16, g 17, g 18, g 19, g 20, g 21, undef, undef, undef, undef, undef, undef, undef, undef, undef, undef, undef, undef, undef, undef, undef, undef, undef, undef, undef, undef, undef, undef, undef, undef, undef, undef, undef, undef, undef, undef, undef, undef, undef, undef, undef, undef, undef, undef, undef, undef, undef, undef, undef, undef, undef, undef, undef, undef, undef, undef, undef, undef, undef, undef, undef, undef, undef, undef], defers := [] }
def dstD1 (i : Nat) : Nat := ([12, 13, 14, 15, 16, 17, 18, 19, 11, 20, 21, 6, 1012, 7] : List Nat).getD i (2000 + i)
def laysD1 (sb : Nat) (eb : Nat) (t : ByteArray) (r : ByteArray) (ca : ByteArray) (cb : ByteArray) (cs : ByteArray) (cv : ByteArray) (ev0 : Value) (j : Nat) (v : Value) (_ : World) : Prop :=
  match j with
  | 0 => v = .pointer (some ⟨sb, 0, none⟩)
  | 1 => v = .pointer (some ⟨sb, 0, none⟩)
  | 2 => v = .pointer (some ⟨sb, 2, none⟩)
  | 3 => v = .pointer (some ⟨eb, 2, none⟩)
  | 4 => v = .string t
  | 5 => v = .pointer (some ⟨eb, 3, none⟩)
  | 6 => v = .string r
  | 7 => v = .tuple #[.agg #[.string ca, .string cb, .string cs, .string cv], ev0]
  | 8 => v = .tuple #[.agg #[.string ca, .string cb, .string cs, .string cv], ev0]
  | 9 => v = .agg #[.string ca, .string cb, .string cs, .string cv]
  | 10 => v = ev0
  | 11 => ∃ p, v = .pointer (some ⟨p, 0, none⟩)
  | 13 => v = ev0
  | _ => True

/-- What Do does. -/
def DoPost (e : Ev) (w : World) (V F : Blk) (sb vb n : Nat) (sec : ByteArray) (S : SrcM) (r : Ending) (w' : World) : Prop :=
  r = .returned (.tuple #[.agg (recV (if doX S e = 0 then toldR sec S.many S.has S.L e else zeroR)), if doX S e = 0 then .nilIface else errV (doX S e)]) ∧ ∃ F', srcIn w' V F' sb vb (n + 3) sec (doS sec S e) ∧ step w w' F F'
theorem answG_is (k : List UInt8 × List UInt8) (T : List Cell) : answG k T = .tuple #[.agg (cellA ((findT k T).getD zeroC)), if (findT k T).isSome = true then .nilIface else errV 7] := by
  unfold answG
  cases findT k T <;> rfl
/-- What Tell leaves, whether or not it is refused. -/
def toldSt (V R : Blk) (fb vb n : Nat) (sec : ByteArray) (many2 : ByteArray → Nat) (has2 : ByteArray → Bool) (L2 : List Rec) (W w' : World) : Prop :=
  ∃ R', vaultIn w' V vb (n + 2) sec many2 has2 ∧ feedIn w' R' fb vb L2 ∧ step W w' (fun i => V i ∨ R i) (fun i => V i ∨ R' i) ∧ ∀ i, R' i → R i ∨ W.heap.size ≤ i
/-- A source's Tell, and a record that is laid beside it. -/
def tellC (V R : Blk) (fb vb n : Nat) (sec : ByteArray) (many many2 : ByteArray → Nat) (has has2 : ByteArray → Bool) (L L2 : List Rec) (x0 x1 : Array Value) (w4 : World) (called made done : Bool) (pv : Value) (w : World) : Prop :=
  ∃ R', (if called = true then vaultIn w V vb (n + 2) sec many2 has2 ∧ feedIn w R' fb vb L2 else vaultIn w V vb n sec many has ∧ feedIn w R fb vb L ∧ R' = R) ∧ (step w4 w (fun i => V i ∨ R i) (fun i => V i ∨ R' i) ∧ ∀ i, R' i → R i ∨ w4.heap.size ≤ i) ∧ (done = true → made = true) ∧
    (made = true → ∃ p, pv = .pointer (some ⟨p, 0, none⟩) ∧ w4.heap.size ≤ p ∧ w.heap[p]? = some (.cells (if done = true then x1 else x0) 108 (0, 0)) ∧ ¬ V p ∧ ¬ R' p)
section
variable {V R : Blk} {fb vb n : Nat} {sec : ByteArray} {many many2 : ByteArray → Nat} {has has2 : ByteArray → Bool} {L L2 : List Rec} {x0 x1 : Array Value} {w4 w w' : World} {c m d : Bool} {pv : Value}
theorem tellC.start (hv : vaultIn w4 V vb n sec many has) (hf : feedIn w4 R fb vb L) : tellC V R fb vb n sec many many2 has has2 L L2 x0 x1 w4 false false false pv { w4 with drawn := w4.drawn + 1 } :=
  ⟨R, ⟨hv.same (fun _ _ => rfl) (Nat.le_refl _), hf.same (fun _ _ => rfl) (Nat.le_refl _), rfl⟩, ⟨.drawn _ _ _, fun i h => .inl h⟩, fun h => h, (fun h => by cases h)⟩
theorem tellC.step (h : tellC V R fb vb n sec many many2 has has2 L L2 x0 x1 w4 c m d pv w) : ∃ R' : Blk, Go.Proofs.YtnkmckdefiblhaaGreatDoor.step w4 w (fun i => V i ∨ R i) (fun i => V i ∨ R' i) := by
  obtain ⟨R', h1, h2, h3⟩ := h
  exact ⟨R', h2.1⟩
theorem tellC.keep (h : tellC V R fb vb n sec many many2 has has2 L L2 x0 x1 w4 c m d pv w) {i : Nat} (hi : i < w4.heap.size) (hn : ¬ (V i ∨ R i)) : w.heap[i]? = w4.heap[i]? := by
  obtain ⟨R', h2⟩ := h.step
  exact (h2.keep hi hn).1
theorem tellC.before (h : tellC V R fb vb n sec many many2 has has2 L L2 x0 x1 w4 c m d pv w) (hc : c = false) : vaultIn w V vb n sec many has ∧ feedIn w R fb vb L := by
  subst hc
  obtain ⟨R', h1, _⟩ := h
  rw [if_neg (by simp)] at h1
  exact ⟨h1.1, h1.2.1⟩
theorem tellC.call (h : tellC V R fb vb n sec many many2 has has2 L L2 x0 x1 w4 c m d pv w) (hc : c = false) (g : toldSt V R fb vb n sec many2 has2 L2 w w') : tellC V R fb vb n sec many many2 has has2 L L2 x0 x1 w4 true m d pv w' := by
  subst hc
  obtain ⟨R', h1, h2, h3, h4⟩ := h
  rw [if_neg (by simp)] at h1
  obtain ⟨_, _, rfl⟩ := h1
  obtain ⟨R2, g1, g2, g3, g4⟩ := g
  refine ⟨R2, by rw [if_pos rfl]; exact ⟨g1, g2⟩, ⟨h2.1.trans g3, fun i hi => (g4 i hi).elim .inl (fun h => .inr (Nat.le_trans h2.1.size h))⟩, h3, fun hm => ?_⟩
  obtain ⟨p, e1, e2, e3, e4, e5⟩ := h4 hm
  obtain ⟨k1, k2, k3⟩ := g3.keep (lt_of_heap e3) (by rintro (h | h); exact e4 h; exact e5 h)
  exact ⟨p, e1, e2, k1.trans e3, e4, fun h => k3 (.inr h)⟩
theorem tellC.lts (h : tellC V R fb vb n sec many many2 has has2 L L2 x0 x1 w4 c m d pv w) : ∃ R', (if c = true then vaultIn w V vb (n + 2) sec many2 has2 ∧ feedIn w R' fb vb L2 else vaultIn w V vb n sec many has ∧ feedIn w R fb vb L ∧ R' = R) ∧ (∀ i, V i → i < w.heap.size) ∧ (∀ i, R' i → i < w.heap.size) ∧ (Go.Proofs.YtnkmckdefiblhaaGreatDoor.step w4 w (fun i => V i ∨ R i) (fun i => V i ∨ R' i) ∧ ∀ i, R' i → R i ∨ w4.heap.size ≤ i) ∧ (d = true → m = true) ∧
    (m = true → ∃ p, pv = .pointer (some ⟨p, 0, none⟩) ∧ w4.heap.size ≤ p ∧ w.heap[p]? = some (.cells (if d = true then x1 else x0) 108 (0, 0)) ∧ ¬ V p ∧ ¬ R' p) := by
  obtain ⟨R', h1, h2, h3, h4⟩ := h
  refine ⟨R', h1, ?_, ?_, h2, h3, h4⟩
  · cases c with
    | true => exact h1.1.lt
    | false => exact h1.1.lt
  · cases c with
    | true => exact h1.2.lt
    | false => obtain ⟨_, h5, rfl⟩ := h1; exact h5.lt
theorem tellC.same {R' : Blk} (h1 : if c = true then vaultIn w V vb (n + 2) sec many2 has2 ∧ feedIn w R' fb vb L2 else vaultIn w V vb n sec many has ∧ feedIn w R fb vb L ∧ R' = R) (hk : ∀ i, V i ∨ R' i → w'.heap[i]? = w.heap[i]?) (hs : w.heap.size ≤ w'.heap.size) :
    if c = true then vaultIn w' V vb (n + 2) sec many2 has2 ∧ feedIn w' R' fb vb L2 else vaultIn w' V vb n sec many has ∧ feedIn w' R fb vb L ∧ R' = R := by
  cases c with
  | true => exact ⟨h1.1.same (fun i hi => hk i (.inl hi)) hs, h1.2.same (fun i hi => hk i (.inr hi)) hs⟩
  | false =>
    obtain ⟨h5, h6, rfl⟩ := h1
    exact ⟨h5.same (fun i hi => hk i (.inl hi)) hs, h6.same (fun i hi => hk i (.inr hi)) hs, rfl⟩
theorem tellC.made (h : tellC V R fb vb n sec many many2 has has2 L L2 x0 x1 w4 c m d pv w) (hm : m = false) : tellC V R fb vb n sec many many2 has has2 L L2 x0 x1 w4 c true d (.pointer (some ⟨w.heap.size, 0, none⟩)) (w.alloc (.cells x0 108)) := by
  obtain ⟨R', h1, hv, hr, h2, h3, h4⟩ := h.lts
  have hd : d = false := by
    cases d with
    | false => rfl
    | true => have := h3 rfl; rw [hm] at this; cases this
  subst hd
  refine ⟨R', tellC.same h1 (fun i hi => heap_alloc_old _ _ (by rcases hi with hi | hi; exact hv i hi; exact hr i hi)) (by simp), ⟨h2.1.trans (.alloc w _ _), h2.2⟩, (fun h => by cases h), fun _ => ⟨_, rfl, h2.1.size, heap_alloc_at w _, fun h => Nat.lt_irrefl _ (hv _ h), fun h => Nat.lt_irrefl _ (hr _ h)⟩⟩
theorem tellC.put {p : Nat} (h : tellC V R fb vb n sec many many2 has has2 L L2 x0 x1 w4 c m d pv w) (hm : m = true) (hp : pv = .pointer (some ⟨p, 0, none⟩)) (hb : w'.heap[p]? = some (.cells x1 108 (0, 0))) (hg : w.grownBy w' (some p)) : tellC V R fb vb n sec many many2 has has2 L L2 x0 x1 w4 c m true pv w' := by
  obtain ⟨R', h1, hv, hr, h2, h3, h4⟩ := h.lts
  obtain ⟨p', e1, e2, e3, e5, e6⟩ := h4 hm
  have e4 := hp.symm.trans e1
  simp only [Value.pointer.injEq, Option.some.injEq, Addr.mk.injEq, and_true] at e4
  subst e4
  refine ⟨R', tellC.same h1 (fun i hi => hg.block i (by rcases hi with hi | hi; exact hv i hi; exact hr i hi) (fun e => by injection e with e; subst e; rcases hi with hi | hi; exact e5 hi; exact e6 hi)) hg.size, ⟨h2.1.put hg (.inr e2), h2.2⟩, fun _ => hm, fun _ => ⟨p, hp, e2, by rw [if_pos rfl]; exact hb, e5, e6⟩⟩
end
theorem srcAt.subVR {w : World} {V F : Blk} {sb vb n : Nat} {sec : ByteArray} {S : SrcM} {fb : Nat} {R : Blk} {tm : Option Nat} (h : srcAt w V F sb vb n sec S fb R tm) (i : Nat) (hi : V i ∨ R i) : F i := hi.elim (h.subV i) (h.subR i)
theorem tellC.stepF {V R F : Blk} {fb vb n n' sb : Nat} {sec : ByteArray} {many many2 : ByteArray → Nat} {has has2 : ByteArray → Bool} {L L2 : List Rec} {x0 x1 : Array Value} {w4 w : World} {c m d : Bool} {pv : Value} {S : SrcM} {tm : Option Nat}
    (h : tellC V R fb vb n sec many many2 has has2 L L2 x0 x1 w4 c m d pv w) (g : srcAt w4 V F sb vb n' sec S fb R tm) : ∃ F', Go.Proofs.YtnkmckdefiblhaaGreatDoor.step w4 w F F' ∧ ∀ i, F i → F' i := by
  obtain ⟨R', h2⟩ := h.step
  exact ⟨_, h2.lift (fun i hi => g.subVR i hi), fun i hi => .inl hi⟩
/-- The source behind Tell, and behind what turns its table. -/
theorem srcAt.told {w4 w8 w9 : World} {V F R R' : Blk} {sb vb n fb : Nat} {sec : ByteArray} {S : SrcM} {tm tm' : Option Nat} {many2 : ByteArray → Nat} {has2 : ByteArray → Bool} {L2 : List Rec} {T2 : List Cell} (h : srcAt w4 V F sb vb n sec S fb R tm)
    (hs : step w4 w8 (fun i => V i ∨ R i) (fun i => V i ∨ R' i)) (hR : ∀ i, R' i → R i ∨ w4.heap.size ≤ i) (hv : vaultIn w8 V vb (n + 2) sec many2 has2) (hf : feedIn w8 R' fb vb L2)
    (ht : tabAt w9 sb (HS vb fb) tm' (n + 3) T2) (ht1 : ∀ b, tm = some b → tm' = some b) (ht2 : tm = none → ∀ b, tm' = some b → w8.heap.size ≤ b) (hk : kept2 w8 w9 sb tm) :
    ∃ F', srcIn w9 V F' sb vb (n + 3) sec ⟨many2, has2, L2, T2⟩ ∧ step w4 w9 F F' := by
  have hVR : ∀ i, V i ∨ R i → F i := fun i hi => hi.elim (h.subV i) (h.subR i)
  have nR : ∀ i, i < w4.heap.size → ¬ R i → ¬ R' i := fun i hi hn h' => (hR i h').elim hn (fun h => by omega)
  have nsb : ¬ R' sb := nR sb (h.lt _ h.sb_.1) h.sb_.2.2
  have ntm : ∀ b, tm = some b → ¬ R' b := fun b hb => nR b (h.lt _ (h.tm_ b hb).1) (h.tm_ b hb).2.2
  have kV : ∀ i, V i → w9.heap[i]? = w8.heap[i]? := fun i hi => hk.block i (hv.lt i hi) (fun e => h.sb_.2.1 (e ▸ hi)) (fun e => (h.tm_ i e.symm).2.1 hi)
  have kR : ∀ i, R' i → w9.heap[i]? = w8.heap[i]? := fun i hi => hk.block i (hf.lt i hi) (fun e => nsb (e ▸ hi)) (fun e => ntm i e.symm hi)
  have htl : ∀ b, tm' = some b → b < w9.heap.size := fun b hb => (ht.map b hb).lt
  have htm : ∀ b, tm' = some b → (F b ∧ tm = some b) ∨ (w8.heap.size ≤ b ∧ tm = none) := fun b hb => by
    cases htm : tm with
    | none => exact .inr ⟨ht2 htm b hb, rfl⟩
    | some c =>
      have := ht1 c htm
      rw [this] at hb
      cases hb
      exact .inl ⟨(h.tm_ _ htm).1, rfl⟩
  refine ⟨fun i => F i ∨ R' i ∨ tm' = some i, ⟨fb, R', tm', ⟨ht, (hv.mono (by omega)).same kV hk.size, hf.same kR hk.size, ?_, fun i hi => .inl (h.subV i hi), fun i hi => .inr (.inl hi), ⟨.inl h.sb_.1, h.sb_.2.1, nsb⟩, ?_, ?_⟩⟩, ?_⟩
  · intro i h1 h2
    rcases hR i h2 with h3 | h3
    · exact h.apartV i h1 h3
    · have := h.vault.lt i h1; omega
  · intro b hb
    refine ⟨.inr (.inr hb), ?_⟩
    rcases htm b hb with ⟨h1, h2⟩ | ⟨h1, _⟩
    · exact ⟨(h.tm_ b h2).2.1, ntm b h2⟩
    · exact ⟨fun e => by have := hv.lt b e; omega, fun e => by have := hf.lt b e; omega⟩
  · rintro i (hi | hi | hi)
    · exact Nat.lt_of_lt_of_le (h.lt i hi) (Nat.le_trans hs.size hk.size)
    · exact Nat.lt_of_lt_of_le (hf.lt i hi) hk.size
    · exact htl i hi
  · refine ⟨hk.os.trans hs.os, hk.tape.trans hs.tape, hk.output.trans hs.output, Nat.le_trans hs.size hk.size, fun i hi hn => ?_, fun i hi => ?_⟩
    · exact (hk.block i (Nat.lt_of_lt_of_le hi hs.size) (fun e => hn (e ▸ h.sb_.1)) (fun e => hn (h.tm_ i e.symm).1)).trans (hs.block i hi (fun e => hn (hVR i e)))
    · rcases hi with hi | hi | hi
      · exact .inl hi
      · rcases hR i hi with h1 | h1
        · exact .inl (h.subR i h1)
        · exact .inr ⟨h1, Nat.lt_of_lt_of_le (hf.lt i hi) hk.size⟩
      · rcases htm i hi with ⟨h1, _⟩ | ⟨h1, _⟩
        · exact .inl h1
        · exact .inr ⟨Nat.le_trans hs.size h1, htl i hi⟩
/-- The source, where Tell was refused. -/
theorem srcAt.refused {w4 w8 : World} {V F R R' : Blk} {sb vb n fb : Nat} {sec : ByteArray} {S : SrcM} {tm : Option Nat} (h : srcAt w4 V F sb vb n sec S fb R tm) (hs : step w4 w8 (fun i => V i ∨ R i) (fun i => V i ∨ R' i)) (hR : ∀ i, R' i → R i ∨ w4.heap.size ≤ i) (hv : vaultIn w8 V vb (n + 2) sec S.many S.has) (hf : feedIn w8 R' fb vb S.L) :
    ∃ F', srcIn w8 V F' sb vb (n + 3) sec S ∧ step w4 w8 F F' := by
  have kp := fun i (hi : F i) (hn : ¬ V i) (hn' : ¬ R i) => (hs.keep (h.lt i hi) (by rintro (h | h); exact hn h; exact hn' h)).1
  exact h.told hs hR hv hf ((h.tab.same (kp sb h.sb_.1 h.sb_.2.1 h.sb_.2.2) (fun b hb => kp b (h.tm_ b hb).1 (h.tm_ b hb).2.1 (h.tm_ b hb).2.2)).mono (by omega)) (fun _ h => h) (fun h b hb => by rw [h] at hb; cases hb) (.refl _ _ _)
def frD7P1 (sb : Nat) (eb : Nat) (zb : Nat) (p6 : Nat) (u : ByteArray) (t : ByteArray) (r : ByteArray) (v0 : ByteArray) (g1 : Nat → Value) (g : Nat → Value) : Act := { tmps := #[.pointer (some ⟨sb, 0, none⟩), .agg #[.int .i64 1, .string u, .string t, .string r, .string v0], undef, .pointer (some ⟨eb, 0, none⟩), .pointer (some ⟨zb, 0, none⟩), .nilIface, .pointer (some ⟨p6, 0, none⟩), g 7, .bool false, g 9, undef, g1 11, g1 12, g1 13, g1 14, g1 15, g1 16, g1 17, g1 18, g1 19, g1 20, g1 21, errV 7, .bool false, .bool false, .pointer (some ⟨eb, 0, none⟩), .int .i64 1, .bool true, .bool true, .bool false, .bool false, .bool false, undef, undef, undef, undef, undef, .bool false, undef, undef, .bool false, .pointer (some ⟨eb, 0, none⟩), .int .i64 1, .bool false, .bool false, undef, undef, undef, undef, undef, undef, undef, undef, undef, .bool false, undef, undef, g 57, g 58, g 59, g 60, g 61, g 62, g 63, g 64, g 65, undef, undef, undef, undef, undef, undef, undef, undef, undef, undef, undef, undef, undef, undef], defers := [] }
def dstD7P1 (i : Nat) : Nat := ([58, 59, 60, 61, 62, 63, 57, 64, 65, 9, 1010, 7] : List Nat).getD i (2000 + i)
def laysD7P1 (sb : Nat) (u : ByteArray) (t : ByteArray) (r : ByteArray) (v0 : ByteArray) (fb : Nat) (q0 : Int) (u0 : ByteArray) (g0 : Int) (p0 : ByteArray) (b0 : ByteArray) (xv : Value) (j : Nat) (v : Value) (_ : World) : Prop :=
  match j with
  | 0 => v = .pointer (some ⟨sb, 0, none⟩)
  | 1 => v = .pointer (some ⟨sb, 0, none⟩)
  | 2 => v = .pointer (some ⟨sb, 1, none⟩)
  | 3 => v = .pointer (some ⟨fb, 0, none⟩)
  | 4 => v = .agg #[.int .i64 1, .string u, .string t, .string r, .string v0]
  | 5 => v = .tuple #[.agg #[.int .i64 q0, .string u0, .int .i64 g0, .string p0, .string b0], xv]
  | 6 => v = .tuple #[.agg #[.int .i64 q0, .string u0, .int .i64 g0, .string p0, .string b0], xv]
  | 7 => v = .agg #[.int .i64 q0, .string u0, .int .i64 g0, .string p0, .string b0]
  | 8 => v = xv
  | 9 => ∃ p, v = .pointer (some ⟨p, 0, none⟩)
  | 11 => v = xv
  | _ => True
def frD7P2 (sb : Nat) (eb : Nat) (zb : Nat) (p6 : Nat) (u : ByteArray) (t : ByteArray) (r : ByteArray) (v0 : ByteArray) (cs : ByteArray) (g1 : Nat → Value) (g : Nat → Value) : Act := { tmps := #[.pointer (some ⟨sb, 0, none⟩), .agg #[.int .i64 1, .string u, .string t, .string r, .string v0], undef, .pointer (some ⟨eb, 0, none⟩), .pointer (some ⟨zb, 0, none⟩), .nilIface, .pointer (some ⟨p6, 0, none⟩), g 7, .bool true, g 9, undef, g1 11, g1 12, g1 13, g1 14, g1 15, g1 16, g1 17, g1 18, g1 19, g1 20, g1 21, .nilIface, .bool true, .bool false, .pointer (some ⟨eb, 0, none⟩), .int .i64 1, .bool true, .bool true, .bool true, .bool true, .bool true, .pointer (some ⟨p6, 2, none⟩), .string cs, .pointer (some ⟨eb, 1, none⟩), .string u, .bool false, .bool false, undef, undef, .bool false, .pointer (some ⟨eb, 0, none⟩), .int .i64 1, .bool false, .bool false, undef, undef, undef, undef, undef, undef, undef, undef, undef, .bool false, undef, undef, g 57, g 58, g 59, g 60, g 61, g 62, g 63, g 64, g 65, undef, undef, undef, undef, undef, undef, undef, undef, undef, undef, undef, undef, undef, undef], defers := [] }
def dstD7P2 (i : Nat) : Nat := ([58, 59, 60, 61, 62, 63, 57, 64, 65, 9, 1010, 7] : List Nat).getD i (2000 + i)
def laysD7P2 (sb : Nat) (u : ByteArray) (t : ByteArray) (r : ByteArray) (v0 : ByteArray) (fb : Nat) (q0 : Int) (u0 : ByteArray) (g0 : Int) (p0 : ByteArray) (b0 : ByteArray) (xv : Value) (j : Nat) (v : Value) (_ : World) : Prop :=
  match j with
  | 0 => v = .pointer (some ⟨sb, 0, none⟩)
  | 1 => v = .pointer (some ⟨sb, 0, none⟩)
  | 2 => v = .pointer (some ⟨sb, 1, none⟩)
  | 3 => v = .pointer (some ⟨fb, 0, none⟩)
  | 4 => v = .agg #[.int .i64 1, .string u, .string t, .string r, .string v0]
  | 5 => v = .tuple #[.agg #[.int .i64 q0, .string u0, .int .i64 g0, .string p0, .string b0], xv]
  | 6 => v = .tuple #[.agg #[.int .i64 q0, .string u0, .int .i64 g0, .string p0, .string b0], xv]
  | 7 => v = .agg #[.int .i64 q0, .string u0, .int .i64 g0, .string p0, .string b0]
  | 8 => v = xv
  | 9 => ∃ p, v = .pointer (some ⟨p, 0, none⟩)
  | 11 => v = xv
  | _ => True
def frD7P3 (sb : Nat) (eb : Nat) (zb : Nat) (p6 : Nat) (u : ByteArray) (t : ByteArray) (r : ByteArray) (v0 : ByteArray) (cs : ByteArray) (g1 : Nat → Value) (g : Nat → Value) : Act := { tmps := #[.pointer (some ⟨sb, 0, none⟩), .agg #[.int .i64 2, .string u, .string t, .string r, .string v0], undef, .pointer (some ⟨eb, 0, none⟩), .pointer (some ⟨zb, 0, none⟩), .nilIface, .pointer (some ⟨p6, 0, none⟩), g 7, .bool true, g 9, undef, g1 11, g1 12, g1 13, g1 14, g1 15, g1 16, g1 17, g1 18, g1 19, g1 20, g1 21, .nilIface, .bool true, .bool false, .pointer (some ⟨eb, 0, none⟩), .int .i64 2, .bool false, .bool false, undef, .bool false, .bool false, undef, undef, undef, undef, undef, .bool false, undef, undef, .bool false, .pointer (some ⟨eb, 0, none⟩), .int .i64 2, .bool true, .bool true, .bool true, .bool false, .bool false, .pointer (some ⟨p6, 2, none⟩), .string cs, .pointer (some ⟨eb, 1, none⟩), .string u, .bool false, .bool false, .bool false, undef, undef, g 57, g 58, g 59, g 60, g 61, g 62, g 63, g 64, g 65, undef, undef, undef, undef, undef, undef, undef, undef, undef, undef, undef, undef, undef, undef], defers := [] }
def dstD7P3 (i : Nat) : Nat := ([58, 59, 60, 61, 62, 63, 57, 64, 65, 9, 1010, 7] : List Nat).getD i (2000 + i)
def laysD7P3 (sb : Nat) (u : ByteArray) (t : ByteArray) (r : ByteArray) (v0 : ByteArray) (fb : Nat) (q0 : Int) (u0 : ByteArray) (g0 : Int) (p0 : ByteArray) (b0 : ByteArray) (xv : Value) (j : Nat) (v : Value) (_ : World) : Prop :=
  match j with
  | 0 => v = .pointer (some ⟨sb, 0, none⟩)
  | 1 => v = .pointer (some ⟨sb, 0, none⟩)
  | 2 => v = .pointer (some ⟨sb, 1, none⟩)
  | 3 => v = .pointer (some ⟨fb, 0, none⟩)
  | 4 => v = .agg #[.int .i64 2, .string u, .string t, .string r, .string v0]
  | 5 => v = .tuple #[.agg #[.int .i64 q0, .string u0, .int .i64 g0, .string p0, .string b0], xv]
  | 6 => v = .tuple #[.agg #[.int .i64 q0, .string u0, .int .i64 g0, .string p0, .string b0], xv]
  | 7 => v = .agg #[.int .i64 q0, .string u0, .int .i64 g0, .string p0, .string b0]
  | 8 => v = xv
  | 9 => ∃ p, v = .pointer (some ⟨p, 0, none⟩)
  | 11 => v = xv
  | _ => True
def frD7P4 (sb : Nat) (eb : Nat) (zb : Nat) (p6 : Nat) (k : Int) (u : ByteArray) (t : ByteArray) (r : ByteArray) (v0 : ByteArray) (g1 : Nat → Value) (g : Nat → Value) : Act := { tmps := #[.pointer (some ⟨sb, 0, none⟩), .agg #[.int .i64 k, .string u, .string t, .string r, .string v0], undef, .pointer (some ⟨eb, 0, none⟩), .pointer (some ⟨zb, 0, none⟩), .nilIface, .pointer (some ⟨p6, 0, none⟩), g 7, .bool false, g 9, undef, g1 11, g1 12, g1 13, g1 14, g1 15, g1 16, g1 17, g1 18, g1 19, g1 20, g1 21, errV 7, .bool false, .bool false, .pointer (some ⟨eb, 0, none⟩), .int .i64 k, .bool false, .bool false, undef, .bool false, .bool false, undef, undef, undef, undef, undef, .bool false, undef, undef, .bool false, .pointer (some ⟨eb, 0, none⟩), .int .i64 k, .bool false, .bool false, undef, undef, undef, undef, undef, undef, undef, undef, undef, .bool false, undef, undef, g 57, g 58, g 59, g 60, g 61, g 62, g 63, g 64, g 65, undef, undef, undef, undef, undef, undef, undef, undef, undef, undef, undef, undef, undef, undef], defers := [] }
def dstD7P4 (i : Nat) : Nat := ([58, 59, 60, 61, 62, 63, 57, 64, 65, 9, 1010, 7] : List Nat).getD i (2000 + i)
def laysD7P4 (sb : Nat) (k : Int) (u : ByteArray) (t : ByteArray) (r : ByteArray) (v0 : ByteArray) (fb : Nat) (q0 : Int) (u0 : ByteArray) (g0 : Int) (p0 : ByteArray) (b0 : ByteArray) (xv : Value) (j : Nat) (v : Value) (_ : World) : Prop :=
  match j with
  | 0 => v = .pointer (some ⟨sb, 0, none⟩)
  | 1 => v = .pointer (some ⟨sb, 0, none⟩)
  | 2 => v = .pointer (some ⟨sb, 1, none⟩)
  | 3 => v = .pointer (some ⟨fb, 0, none⟩)
  | 4 => v = .agg #[.int .i64 k, .string u, .string t, .string r, .string v0]
  | 5 => v = .tuple #[.agg #[.int .i64 q0, .string u0, .int .i64 g0, .string p0, .string b0], xv]
  | 6 => v = .tuple #[.agg #[.int .i64 q0, .string u0, .int .i64 g0, .string p0, .string b0], xv]
  | 7 => v = .agg #[.int .i64 q0, .string u0, .int .i64 g0, .string p0, .string b0]
  | 8 => v = xv
  | 9 => ∃ p, v = .pointer (some ⟨p, 0, none⟩)
  | 11 => v = xv
  | _ => True
def frD7P5 (sb : Nat) (eb : Nat) (zb : Nat) (p6 : Nat) (k : Int) (u : ByteArray) (t : ByteArray) (r : ByteArray) (v0 : ByteArray) (g1 : Nat → Value) (g : Nat → Value) : Act := { tmps := #[.pointer (some ⟨sb, 0, none⟩), .agg #[.int .i64 k, .string u, .string t, .string r, .string v0], undef, .pointer (some ⟨eb, 0, none⟩), .pointer (some ⟨zb, 0, none⟩), .nilIface, .pointer (some ⟨p6, 0, none⟩), g 7, .bool true, g 9, undef, g1 11, g1 12, g1 13, g1 14, g1 15, g1 16, g1 17, g1 18, g1 19, g1 20, g1 21, .nilIface, .bool true, .bool false, .pointer (some ⟨eb, 0, none⟩), .int .i64 k, .bool false, .bool false, undef, .bool false, .bool false, undef, undef, undef, undef, undef, .bool false, undef, undef, .bool false, .pointer (some ⟨eb, 0, none⟩), .int .i64 k, .bool false, .bool false, undef, undef, undef, undef, undef, undef, undef, undef, undef, .bool false, undef, undef, g 57, g 58, g 59, g 60, g 61, g 62, g 63, g 64, g 65, undef, undef, undef, undef, undef, undef, undef, undef, undef, undef, undef, undef, undef, undef], defers := [] }
def dstD7P5 (i : Nat) : Nat := ([58, 59, 60, 61, 62, 63, 57, 64, 65, 9, 1010, 7] : List Nat).getD i (2000 + i)
def laysD7P5 (sb : Nat) (k : Int) (u : ByteArray) (t : ByteArray) (r : ByteArray) (v0 : ByteArray) (fb : Nat) (q0 : Int) (u0 : ByteArray) (g0 : Int) (p0 : ByteArray) (b0 : ByteArray) (xv : Value) (j : Nat) (v : Value) (_ : World) : Prop :=
  match j with
  | 0 => v = .pointer (some ⟨sb, 0, none⟩)
  | 1 => v = .pointer (some ⟨sb, 0, none⟩)
  | 2 => v = .pointer (some ⟨sb, 1, none⟩)
  | 3 => v = .pointer (some ⟨fb, 0, none⟩)
  | 4 => v = .agg #[.int .i64 k, .string u, .string t, .string r, .string v0]
  | 5 => v = .tuple #[.agg #[.int .i64 q0, .string u0, .int .i64 g0, .string p0, .string b0], xv]
  | 6 => v = .tuple #[.agg #[.int .i64 q0, .string u0, .int .i64 g0, .string p0, .string b0], xv]
  | 7 => v = .agg #[.int .i64 q0, .string u0, .int .i64 g0, .string p0, .string b0]
  | 8 => v = xv
  | 9 => ∃ p, v = .pointer (some ⟨p, 0, none⟩)
  | 11 => v = xv
  | _ => True

end Go.Proofs.YtnkmckdefiblhaaGreatDoor
