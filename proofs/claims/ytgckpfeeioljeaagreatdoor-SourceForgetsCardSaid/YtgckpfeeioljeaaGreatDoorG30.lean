/- source.Do (the walk). -/
import Derived.Test.YtgckpfeeioljeaaGreatDoorProg
import Derived.Test.YtgckpfeeioljeaaGreatDoorG27
import Derived.Test.YtgckpfeeioljeaaGreatDoorG28
namespace Go.Proofs.YtgckpfeeioljeaaGreatDoor
open Go.RowKit Go.Shelf

/-- A struct that is laid, then filled. -/
def newA (ty : TypeId) (w2 : World) (x0 x1 : Array Value) (made done : Bool) (pv : Value) (w : World) : Prop :=
  Below w2.heap.size w2 w ∧ (done = true → made = true) ∧ (made = true → ∃ p, pv = .pointer (some ⟨p, 0, none⟩) ∧ w2.heap.size ≤ p ∧ w.heap[p]? = some (.cells (if done = true then x1 else x0) ty (0, 0)))
theorem newA.start (ty : TypeId) (w2 : World) (x0 x1 : Array Value) (pv : Value) : newA ty w2 x0 x1 false false pv { w2 with drawn := w2.drawn + 1 } :=
  ⟨(Below.refl _ _).drew, fun h => h, (fun h => by cases h)⟩
theorem newA.ext {ty : TypeId} {w2 w w' : World} {x0 x1 : Array Value} {made done : Bool} {pv : Value} (h : newA ty w2 x0 x1 made done pv w) (hx : ∃ x, w' = Go.Proofs.YtgckpfeeioljeaaGreatDoor.ext w x) : newA ty w2 x0 x1 made done pv w' := by
  have hb := ext_iff.1 hx
  refine ⟨h.1.trans (hb.mono h.1.size), h.2.1, fun hm => ?_⟩
  obtain ⟨p, h1, h2, h3⟩ := h.2.2 hm
  exact ⟨p, h1, h2, (hb.block _ (lt_of_heap h3)).trans h3⟩
theorem newA.made {ty : TypeId} {w2 w : World} {x0 x1 : Array Value} {m d : Bool} {pv : Value} (h : newA ty w2 x0 x1 m d pv w) (hm : m = false) : newA ty w2 x0 x1 true d (.pointer (some ⟨w.heap.size, 0, none⟩)) (w.alloc (.cells x0 ty)) := by
  have hd : d = false := by
    cases d with
    | false => rfl
    | true => have := h.2.1 rfl; rw [hm] at this; cases this
  subst hd
  exact ⟨h.1.alloc h.1.size _, (fun h => by cases h), fun _ => ⟨_, rfl, h.1.size, heap_alloc_at w _⟩⟩
/-- A whole row is stored. -/
theorem setC4 {w : World} {b : Nat} {v0 v1 v2 v3 : Value} {t : TypeId} (h : w.heap[b]? = some (.cells #[v0, v1, v2, v3] t (0, 0))) (x0 x1 x2 x3 : Value) :
    ((((w.setCell ⟨b, 0, none⟩ x0).setCell ⟨b, 1, none⟩ x1).setCell ⟨b, 2, none⟩ x2).setCell ⟨b, 3, none⟩ x3).heap[b]? = some (.cells #[x0, x1, x2, x3] t (0, 0)) ∧
    w.grownBy ((((w.setCell ⟨b, 0, none⟩ x0).setCell ⟨b, 1, none⟩ x1).setCell ⟨b, 2, none⟩ x2).setCell ⟨b, 3, none⟩ x3) (some b) :=
  ⟨heap_setCell (heap_setCell (heap_setCell (heap_setCell h _) _) _) _, (((grown_setCell _ _ _ _).trans (grown_setCell _ _ _ _)).trans (grown_setCell _ _ _ _)).trans (grown_setCell _ _ _ _)⟩
theorem newA.put {ty : TypeId} {w2 w w' : World} {x0 x1 : Array Value} {m d : Bool} {pv : Value} {p : Nat} (h : newA ty w2 x0 x1 m d pv w) (hm : m = true) (hp : pv = .pointer (some ⟨p, 0, none⟩)) (hb : w'.heap[p]? = some (.cells x1 ty (0, 0))) (hg : w.grownBy w' (some p)) : newA ty w2 x0 x1 m true pv w' := by
  obtain ⟨p', e1, e2, e3⟩ := h.2.2 hm
  have e4 := hp.symm.trans e1
  simp only [Value.pointer.injEq, Option.some.injEq, Addr.mk.injEq, and_true] at e4
  subst e4
  exact ⟨h.1.grown hg h.1.size (fun j e => by cases e; exact e2), fun _ => hm, fun _ => ⟨p, hp, e2, by rw [if_pos rfl]; exact hb⟩⟩
def frD1 (sb : Nat) (eb : Nat) (zb : Nat) (k : Int) (u : ByteArray) (t : ByteArray) (r : ByteArray) (v0 : ByteArray) (g : Nat → Value) : Act := { tmps := #[.pointer (some ⟨sb, 0, none⟩), .agg #[.int .i64 k, .string u, .string t, .string r, .string v0], undef, .pointer (some ⟨eb, 0, none⟩), .pointer (some ⟨zb, 0, none⟩), .nilIface, g 6, g 7, undef, undef, undef, g 11, g 12, g 13, g 14, g 15, g 16, g 17, g 18, g 19, g 20, g 21, undef, undef, undef, undef, undef, undef, undef, undef, undef, undef, undef, undef, undef, undef, undef, undef, undef, undef, undef, undef, undef, undef, undef, undef, undef, undef, undef, undef, undef, undef, undef, undef, undef, undef, undef, undef, undef, undef, undef, undef, undef, undef, undef, undef, undef, undef, undef, undef, undef, undef, undef, undef, undef, undef, undef, undef, undef, undef], defers := [] }
def dstD1 (i : Nat) : Nat := ([12, 13, 14, 15, 16, 17, 18, 19, 11, 20, 21, 6, 1012, 7] : List Nat).getD i (2000 + i)
def laysD1 (sb : Nat) (eb : Nat) (t : ByteArray) (r : ByteArray) (ca : ByteArray) (cb : ByteArray) (cs : ByteArray) (cv : ByteArray) (ev0 : Value) (j : Nat) (v : Value) (_ : World) : Prop :=
  match j with
  | 0 => v = .pointer (some ⟨sb, 0, none⟩)
  | 1 => v = .pointer (some ⟨sb, 0, none⟩)
  | 2 => v = .pointer (some ⟨sb, 2, none⟩)
  | 3 => v = .pointer (some ⟨eb, 2, none⟩)
  | 4 => v = .string t
  | 5 => v = .pointer (some ⟨eb, 3, none⟩)
  | 6 => v = .string r
  | 7 => v = .tuple #[.agg #[.string ca, .string cb, .string cs, .string cv], ev0]
  | 8 => v = .tuple #[.agg #[.string ca, .string cb, .string cs, .string cv], ev0]
  | 9 => v = .agg #[.string ca, .string cb, .string cs, .string cv]
  | 10 => v = ev0
  | 11 => ∃ p, v = .pointer (some ⟨p, 0, none⟩)
  | 13 => v = ev0
  | _ => True

/-- What Do does. -/
def DoPost (e : Ev) (w : World) (V F : Blk) (sb vb n : Nat) (sec : ByteArray) (S : SrcM) (r : Ending) (w' : World) : Prop :=
  r = .returned (.tuple #[.agg (recV (if doX S e = 0 then toldR sec S.many S.has S.L e else zeroR)), if doX S e = 0 then .nilIface else errV (doX S e)]) ∧ ∃ F', srcIn w' V F' sb vb (n + 3) sec (doS sec S e) ∧ step w w' F F'
theorem answG_is (k : List UInt8 × List UInt8) (T : List Cell) : answG k T = .tuple #[.agg (cellA ((findT k T).getD zeroC)), if (findT k T).isSome = true then .nilIface else errV 7] := by
  unfold answG
  cases findT k T <;> rfl
/-- What Tell leaves, whether or not it is refused. -/
def toldSt (V R : Blk) (fb vb n : Nat) (sec : ByteArray) (many2 : ByteArray → Nat) (has2 : ByteArray → Bool) (L2 : List Rec) (W w' : World) : Prop :=
  ∃ R', vaultIn w' V vb (n + 2) sec many2 has2 ∧ feedIn w' R' fb vb L2 ∧ step W w' (fun i => V i ∨ R i) (fun i => V i ∨ R' i) ∧ ∀ i, R' i → R i ∨ W.heap.size ≤ i
theorem told_all {e : Ev} {w w' : World} {V R : Blk} {fb vb n : Nat} {sec : ByteArray} {many : ByteArray → Nat} {has : ByteArray → Bool} {L : List Rec} {r : Ending} (h : ToldAll e w V R fb vb n sec many has L r w') :
    r = .returned (.tuple #[.agg (recV (if tellX has e = 0 then toldR sec many has L e else zeroR)), if tellX has e = 0 then .nilIface else errV (tellX has e)]) ∧
    toldSt V R fb vb n sec (if tellX has e = 0 then toldMany many has e else many) (if tellX has e = 0 then toldHas has e else has) (if tellX has e = 0 then L ++ [toldR sec many has L e] else L) w w' := by
  rcases h with ⟨h0, h1, h2⟩ | ⟨h0, h1, h2, h3, h4⟩
  · rw [if_pos h0, if_pos h0, if_pos h0, if_pos h0, if_pos h0]; exact ⟨h1, h2⟩
  · have hn : tellX has e ≠ 0 := by omega
    rw [if_neg hn, if_neg hn, if_neg hn, if_neg hn, if_neg hn]
    exact ⟨h1, R, h2.mono (by omega), h3, h4, fun i h => .inl h⟩
/-- A source's Tell, and a record that is laid beside it. -/
def tellC (V R : Blk) (fb vb n : Nat) (sec : ByteArray) (many many2 : ByteArray → Nat) (has has2 : ByteArray → Bool) (L L2 : List Rec) (x0 x1 : Array Value) (w4 : World) (called made done : Bool) (pv : Value) (w : World) : Prop :=
  ∃ R', (if called = true then vaultIn w V vb (n + 2) sec many2 has2 ∧ feedIn w R' fb vb L2 else vaultIn w V vb n sec many has ∧ feedIn w R fb vb L ∧ R' = R) ∧ (step w4 w (fun i => V i ∨ R i) (fun i => V i ∨ R' i) ∧ ∀ i, R' i → R i ∨ w4.heap.size ≤ i) ∧ (done = true → made = true) ∧
    (made = true → ∃ p, pv = .pointer (some ⟨p, 0, none⟩) ∧ w4.heap.size ≤ p ∧ w.heap[p]? = some (.cells (if done = true then x1 else x0) 55 (0, 0)) ∧ ¬ V p ∧ ¬ R' p)
section
variable {V R : Blk} {fb vb n : Nat} {sec : ByteArray} {many many2 : ByteArray → Nat} {has has2 : ByteArray → Bool} {L L2 : List Rec} {x0 x1 : Array Value} {w4 w w' : World} {c m d : Bool} {pv : Value}
theorem tellC.start (hv : vaultIn w4 V vb n sec many has) (hf : feedIn w4 R fb vb L) : tellC V R fb vb n sec many many2 has has2 L L2 x0 x1 w4 false false false pv { w4 with drawn := w4.drawn + 1 } :=
  ⟨R, ⟨hv.same (fun _ _ => rfl) (Nat.le_refl _), hf.same (fun _ _ => rfl) (Nat.le_refl _), rfl⟩, ⟨.drawn _ _ _, fun i h => .inl h⟩, fun h => h, (fun h => by cases h)⟩
theorem tellC.step (h : tellC V R fb vb n sec many many2 has has2 L L2 x0 x1 w4 c m d pv w) : ∃ R' : Blk, Go.Proofs.YtgckpfeeioljeaaGreatDoor.step w4 w (fun i => V i ∨ R i) (fun i => V i ∨ R' i) := by
  obtain ⟨R', h1, h2, h3⟩ := h
  exact ⟨R', h2.1⟩
theorem tellC.keep (h : tellC V R fb vb n sec many many2 has has2 L L2 x0 x1 w4 c m d pv w) {i : Nat} (hi : i < w4.heap.size) (hn : ¬ (V i ∨ R i)) : w.heap[i]? = w4.heap[i]? := by
  obtain ⟨R', h2⟩ := h.step
  exact (h2.keep hi hn).1
theorem tellC.before (h : tellC V R fb vb n sec many many2 has has2 L L2 x0 x1 w4 c m d pv w) (hc : c = false) : vaultIn w V vb n sec many has ∧ feedIn w R fb vb L := by
  subst hc
  obtain ⟨R', h1, _⟩ := h
  rw [if_neg (by simp)] at h1
  exact ⟨h1.1, h1.2.1⟩
theorem tellC.call (h : tellC V R fb vb n sec many many2 has has2 L L2 x0 x1 w4 c m d pv w) (hc : c = false) (g : toldSt V R fb vb n sec many2 has2 L2 w w') : tellC V R fb vb n sec many many2 has has2 L L2 x0 x1 w4 true m d pv w' := by
  subst hc
  obtain ⟨R', h1, h2, h3, h4⟩ := h
  rw [if_neg (by simp)] at h1
  obtain ⟨_, _, rfl⟩ := h1
  obtain ⟨R2, g1, g2, g3, g4⟩ := g
  refine ⟨R2, by rw [if_pos rfl]; exact ⟨g1, g2⟩, ⟨h2.1.trans g3, fun i hi => (g4 i hi).elim .inl (fun h => .inr (Nat.le_trans h2.1.size h))⟩, h3, fun hm => ?_⟩
  obtain ⟨p, e1, e2, e3, e4, e5⟩ := h4 hm
  obtain ⟨k1, k2, k3⟩ := g3.keep (lt_of_heap e3) (by rintro (h | h); exact e4 h; exact e5 h)
  exact ⟨p, e1, e2, k1.trans e3, e4, fun h => k3 (.inr h)⟩
theorem tellC.lts (h : tellC V R fb vb n sec many many2 has has2 L L2 x0 x1 w4 c m d pv w) : ∃ R', (if c = true then vaultIn w V vb (n + 2) sec many2 has2 ∧ feedIn w R' fb vb L2 else vaultIn w V vb n sec many has ∧ feedIn w R fb vb L ∧ R' = R) ∧ (∀ i, V i → i < w.heap.size) ∧ (∀ i, R' i → i < w.heap.size) ∧ (Go.Proofs.YtgckpfeeioljeaaGreatDoor.step w4 w (fun i => V i ∨ R i) (fun i => V i ∨ R' i) ∧ ∀ i, R' i → R i ∨ w4.heap.size ≤ i) ∧ (d = true → m = true) ∧
    (m = true → ∃ p, pv = .pointer (some ⟨p, 0, none⟩) ∧ w4.heap.size ≤ p ∧ w.heap[p]? = some (.cells (if d = true then x1 else x0) 55 (0, 0)) ∧ ¬ V p ∧ ¬ R' p) := by
  obtain ⟨R', h1, h2, h3, h4⟩ := h
  refine ⟨R', h1, ?_, ?_, h2, h3, h4⟩
  · cases c with
    | true => exact h1.1.lt
    | false => exact h1.1.lt
  · cases c with
    | true => exact h1.2.lt
    | false => obtain ⟨_, h5, rfl⟩ := h1; exact h5.lt
theorem tellC.same {R' : Blk} (h1 : if c = true then vaultIn w V vb (n + 2) sec many2 has2 ∧ feedIn w R' fb vb L2 else vaultIn w V vb n sec many has ∧ feedIn w R fb vb L ∧ R' = R) (hk : ∀ i, V i ∨ R' i → w'.heap[i]? = w.heap[i]?) (hs : w.heap.size ≤ w'.heap.size) :
    if c = true then vaultIn w' V vb (n + 2) sec many2 has2 ∧ feedIn w' R' fb vb L2 else vaultIn w' V vb n sec many has ∧ feedIn w' R fb vb L ∧ R' = R := by
  cases c with
  | true => exact ⟨h1.1.same (fun i hi => hk i (.inl hi)) hs, h1.2.same (fun i hi => hk i (.inr hi)) hs⟩
  | false =>
    obtain ⟨h5, h6, rfl⟩ := h1
    exact ⟨h5.same (fun i hi => hk i (.inl hi)) hs, h6.same (fun i hi => hk i (.inr hi)) hs, rfl⟩
theorem tellC.made (h : tellC V R fb vb n sec many many2 has has2 L L2 x0 x1 w4 c m d pv w) (hm : m = false) : tellC V R fb vb n sec many many2 has has2 L L2 x0 x1 w4 c true d (.pointer (some ⟨w.heap.size, 0, none⟩)) (w.alloc (.cells x0 55)) := by
  obtain ⟨R', h1, hv, hr, h2, h3, h4⟩ := h.lts
  have hd : d = false := by
    cases d with
    | false => rfl
    | true => have := h3 rfl; rw [hm] at this; cases this
  subst hd
  refine ⟨R', tellC.same h1 (fun i hi => heap_alloc_old _ _ (by rcases hi with hi | hi; exact hv i hi; exact hr i hi)) (by simp), ⟨h2.1.trans (.alloc w _ _), h2.2⟩, (fun h => by cases h), fun _ => ⟨_, rfl, h2.1.size, heap_alloc_at w _, fun h => Nat.lt_irrefl _ (hv _ h), fun h => Nat.lt_irrefl _ (hr _ h)⟩⟩
theorem tellC.put {p : Nat} (h : tellC V R fb vb n sec many many2 has has2 L L2 x0 x1 w4 c m d pv w) (hm : m = true) (hp : pv = .pointer (some ⟨p, 0, none⟩)) (hb : w'.heap[p]? = some (.cells x1 55 (0, 0))) (hg : w.grownBy w' (some p)) : tellC V R fb vb n sec many many2 has has2 L L2 x0 x1 w4 c m true pv w' := by
  obtain ⟨R', h1, hv, hr, h2, h3, h4⟩ := h.lts
  obtain ⟨p', e1, e2, e3, e5, e6⟩ := h4 hm
  have e4 := hp.symm.trans e1
  simp only [Value.pointer.injEq, Option.some.injEq, Addr.mk.injEq, and_true] at e4
  subst e4
  refine ⟨R', tellC.same h1 (fun i hi => hg.block i (by rcases hi with hi | hi; exact hv i hi; exact hr i hi) (fun e => by injection e with e; subst e; rcases hi with hi | hi; exact e5 hi; exact e6 hi)) hg.size, ⟨h2.1.put hg (.inr e2), h2.2⟩, fun _ => hm, fun _ => ⟨p, hp, e2, by rw [if_pos rfl]; exact hb, e5, e6⟩⟩
end
theorem srcAt.subVR {w : World} {V F : Blk} {sb vb n : Nat} {sec : ByteArray} {S : SrcM} {fb : Nat} {R : Blk} {tm : Option Nat} (h : srcAt w V F sb vb n sec S fb R tm) (i : Nat) (hi : V i ∨ R i) : F i := hi.elim (h.subV i) (h.subR i)
theorem tellC.stepF {V R F : Blk} {fb vb n n' sb : Nat} {sec : ByteArray} {many many2 : ByteArray → Nat} {has has2 : ByteArray → Bool} {L L2 : List Rec} {x0 x1 : Array Value} {w4 w : World} {c m d : Bool} {pv : Value} {S : SrcM} {tm : Option Nat}
    (h : tellC V R fb vb n sec many many2 has has2 L L2 x0 x1 w4 c m d pv w) (g : srcAt w4 V F sb vb n' sec S fb R tm) : ∃ F', Go.Proofs.YtgckpfeeioljeaaGreatDoor.step w4 w F F' ∧ ∀ i, F i → F' i := by
  obtain ⟨R', h2⟩ := h.step
  exact ⟨_, h2.lift (fun i hi => g.subVR i hi), fun i hi => .inl hi⟩
/-- The source behind Tell, and behind what turns its table. -/
theorem srcAt.told {w4 w8 w9 : World} {V F R R' : Blk} {sb vb n fb : Nat} {sec : ByteArray} {S : SrcM} {tm tm' : Option Nat} {many2 : ByteArray → Nat} {has2 : ByteArray → Bool} {L2 : List Rec} {T2 : List Cell} (h : srcAt w4 V F sb vb n sec S fb R tm)
    (hs : step w4 w8 (fun i => V i ∨ R i) (fun i => V i ∨ R' i)) (hR : ∀ i, R' i → R i ∨ w4.heap.size ≤ i) (hv : vaultIn w8 V vb (n + 2) sec many2 has2) (hf : feedIn w8 R' fb vb L2)
    (ht : tabAt w9 sb (HS vb fb) tm' (n + 3) T2) (ht1 : ∀ b, tm = some b → tm' = some b) (ht2 : tm = none → ∀ b, tm' = some b → w8.heap.size ≤ b) (hk : kept2 w8 w9 sb tm) :
    ∃ F', srcIn w9 V F' sb vb (n + 3) sec ⟨many2, has2, L2, T2⟩ ∧ step w4 w9 F F' := by
  have hVR : ∀ i, V i ∨ R i → F i := fun i hi => hi.elim (h.subV i) (h.subR i)
  have nR : ∀ i, i < w4.heap.size → ¬ R i → ¬ R' i := fun i hi hn h' => (hR i h').elim hn (fun h => by omega)
  have nsb : ¬ R' sb := nR sb (h.lt _ h.sb_.1) h.sb_.2.2
  have ntm : ∀ b, tm = some b → ¬ R' b := fun b hb => nR b (h.lt _ (h.tm_ b hb).1) (h.tm_ b hb).2.2
  have kV : ∀ i, V i → w9.heap[i]? = w8.heap[i]? := fun i hi => hk.block i (hv.lt i hi) (fun e => h.sb_.2.1 (e ▸ hi)) (fun e => (h.tm_ i e.symm).2.1 hi)
  have kR : ∀ i, R' i → w9.heap[i]? = w8.heap[i]? := fun i hi => hk.block i (hf.lt i hi) (fun e => nsb (e ▸ hi)) (fun e => ntm i e.symm hi)
  have htl : ∀ b, tm' = some b → b < w9.heap.size := fun b hb => (ht.map b hb).lt
  have htm : ∀ b, tm' = some b → (F b ∧ tm = some b) ∨ (w8.heap.size ≤ b ∧ tm = none) := fun b hb => by
    cases htm : tm with
    | none => exact .inr ⟨ht2 htm b hb, rfl⟩
    | some c =>
      have := ht1 c htm
      rw [this] at hb
      cases hb
      exact .inl ⟨(h.tm_ _ htm).1, rfl⟩
  refine ⟨fun i => F i ∨ R' i ∨ tm' = some i, ⟨fb, R', tm', ⟨ht, (hv.mono (by omega)).same kV hk.size, hf.same kR hk.size, ?_, fun i hi => .inl (h.subV i hi), fun i hi => .inr (.inl hi), ⟨.inl h.sb_.1, h.sb_.2.1, nsb⟩, ?_, ?_⟩⟩, ?_⟩
  · intro i h1 h2
    rcases hR i h2 with h3 | h3
    · exact h.apartV i h1 h3
    · have := h.vault.lt i h1; omega
  · intro b hb
    refine ⟨.inr (.inr hb), ?_⟩
    rcases htm b hb with ⟨h1, h2⟩ | ⟨h1, _⟩
    · exact ⟨(h.tm_ b h2).2.1, ntm b h2⟩
    · exact ⟨fun e => by have := hv.lt b e; omega, fun e => by have := hf.lt b e; omega⟩
  · rintro i (hi | hi | hi)
    · exact Nat.lt_of_lt_of_le (h.lt i hi) (Nat.le_trans hs.size hk.size)
    · exact Nat.lt_of_lt_of_le (hf.lt i hi) hk.size
    · exact htl i hi
  · refine ⟨hk.os.trans hs.os, hk.tape.trans hs.tape, hk.output.trans hs.output, Nat.le_trans hs.size hk.size, fun i hi hn => ?_, fun i hi => ?_⟩
    · exact (hk.block i (Nat.lt_of_lt_of_le hi hs.size) (fun e => hn (e ▸ h.sb_.1)) (fun e => hn (h.tm_ i e.symm).1)).trans (hs.block i hi (fun e => hn (hVR i e)))
    · rcases hi with hi | hi | hi
      · exact .inl hi
      · rcases hR i hi with h1 | h1
        · exact .inl (h.subR i h1)
        · exact .inr ⟨h1, Nat.lt_of_lt_of_le (hf.lt i hi) hk.size⟩
      · rcases htm i hi with ⟨h1, _⟩ | ⟨h1, _⟩
        · exact .inl h1
        · exact .inr ⟨Nat.le_trans hs.size h1, htl i hi⟩
/-- The source, where Tell was refused. -/
theorem srcAt.refused {w4 w8 : World} {V F R R' : Blk} {sb vb n fb : Nat} {sec : ByteArray} {S : SrcM} {tm : Option Nat} (h : srcAt w4 V F sb vb n sec S fb R tm) (hs : step w4 w8 (fun i => V i ∨ R i) (fun i => V i ∨ R' i)) (hR : ∀ i, R' i → R i ∨ w4.heap.size ≤ i) (hv : vaultIn w8 V vb (n + 2) sec S.many S.has) (hf : feedIn w8 R' fb vb S.L) :
    ∃ F', srcIn w8 V F' sb vb (n + 3) sec S ∧ step w4 w8 F F' := by
  have kp := fun i (hi : F i) (hn : ¬ V i) (hn' : ¬ R i) => (hs.keep (h.lt i hi) (by rintro (h | h); exact hn h; exact hn' h)).1
  exact h.told hs hR hv hf ((h.tab.same (kp sb h.sb_.1 h.sb_.2.1 h.sb_.2.2) (fun b hb => kp b (h.tm_ b hb).1 (h.tm_ b hb).2.1 (h.tm_ b hb).2.2)).mono (by omega)) (fun _ h => h) (fun h b hb => by rw [h] at hb; cases hb) (.refl _ _ _)
def frD7P1 (sb : Nat) (eb : Nat) (zb : Nat) (p6 : Nat) (u : ByteArray) (t : ByteArray) (r : ByteArray) (v0 : ByteArray) (g1 : Nat → Value) (g : Nat → Value) : Act := { tmps := #[.pointer (some ⟨sb, 0, none⟩), .agg #[.int .i64 1, .string u, .string t, .string r, .string v0], undef, .pointer (some ⟨eb, 0, none⟩), .pointer (some ⟨zb, 0, none⟩), .nilIface, .pointer (some ⟨p6, 0, none⟩), g 7, .bool false, g 9, undef, g1 11, g1 12, g1 13, g1 14, g1 15, g1 16, g1 17, g1 18, g1 19, g1 20, g1 21, errV 7, .bool false, .bool false, .pointer (some ⟨eb, 0, none⟩), .int .i64 1, .bool true, .bool true, .bool false, .bool false, .bool false, undef, undef, undef, undef, undef, .bool false, undef, undef, .bool false, .pointer (some ⟨eb, 0, none⟩), .int .i64 1, .bool false, .bool false, undef, undef, undef, undef, undef, undef, undef, undef, undef, .bool false, undef, undef, g 57, g 58, g 59, g 60, g 61, g 62, g 63, g 64, g 65, undef, undef, undef, undef, undef, undef, undef, undef, undef, undef, undef, undef, undef, undef], defers := [] }
def dstD7P1 (i : Nat) : Nat := ([58, 59, 60, 61, 62, 63, 57, 64, 65, 9, 1010, 7] : List Nat).getD i (2000 + i)
def laysD7P1 (sb : Nat) (u : ByteArray) (t : ByteArray) (r : ByteArray) (v0 : ByteArray) (fb : Nat) (q0 : Int) (u0 : ByteArray) (g0 : Int) (p0 : ByteArray) (b0 : ByteArray) (xv : Value) (j : Nat) (v : Value) (_ : World) : Prop :=
  match j with
  | 0 => v = .pointer (some ⟨sb, 0, none⟩)
  | 1 => v = .pointer (some ⟨sb, 0, none⟩)
  | 2 => v = .pointer (some ⟨sb, 1, none⟩)
  | 3 => v = .pointer (some ⟨fb, 0, none⟩)
  | 4 => v = .agg #[.int .i64 1, .string u, .string t, .string r, .string v0]
  | 5 => v = .tuple #[.agg #[.int .i64 q0, .string u0, .int .i64 g0, .string p0, .string b0], xv]
  | 6 => v = .tuple #[.agg #[.int .i64 q0, .string u0, .int .i64 g0, .string p0, .string b0], xv]
  | 7 => v = .agg #[.int .i64 q0, .string u0, .int .i64 g0, .string p0, .string b0]
  | 8 => v = xv
  | 9 => ∃ p, v = .pointer (some ⟨p, 0, none⟩)
  | 11 => v = xv
  | _ => True
def frD7P2 (sb : Nat) (eb : Nat) (zb : Nat) (p6 : Nat) (u : ByteArray) (t : ByteArray) (r : ByteArray) (v0 : ByteArray) (cs : ByteArray) (g1 : Nat → Value) (g : Nat → Value) : Act := { tmps := #[.pointer (some ⟨sb, 0, none⟩), .agg #[.int .i64 1, .string u, .string t, .string r, .string v0], undef, .pointer (some ⟨eb, 0, none⟩), .pointer (some ⟨zb, 0, none⟩), .nilIface, .pointer (some ⟨p6, 0, none⟩), g 7, .bool true, g 9, undef, g1 11, g1 12, g1 13, g1 14, g1 15, g1 16, g1 17, g1 18, g1 19, g1 20, g1 21, .nilIface, .bool true, .bool false, .pointer (some ⟨eb, 0, none⟩), .int .i64 1, .bool true, .bool true, .bool true, .bool true, .bool true, .pointer (some ⟨p6, 2, none⟩), .string cs, .pointer (some ⟨eb, 1, none⟩), .string u, .bool false, .bool false, undef, undef, .bool false, .pointer (some ⟨eb, 0, none⟩), .int .i64 1, .bool false, .bool false, undef, undef, undef, undef, undef, undef, undef, undef, undef, .bool false, undef, undef, g 57, g 58, g 59, g 60, g 61, g 62, g 63, g 64, g 65, undef, undef, undef, undef, undef, undef, undef, undef, undef, undef, undef, undef, undef, undef], defers := [] }
def dstD7P2 (i : Nat) : Nat := ([58, 59, 60, 61, 62, 63, 57, 64, 65, 9, 1010, 7] : List Nat).getD i (2000 + i)
def laysD7P2 (sb : Nat) (u : ByteArray) (t : ByteArray) (r : ByteArray) (v0 : ByteArray) (fb : Nat) (q0 : Int) (u0 : ByteArray) (g0 : Int) (p0 : ByteArray) (b0 : ByteArray) (xv : Value) (j : Nat) (v : Value) (_ : World) : Prop :=
  match j with
  | 0 => v = .pointer (some ⟨sb, 0, none⟩)
  | 1 => v = .pointer (some ⟨sb, 0, none⟩)
  | 2 => v = .pointer (some ⟨sb, 1, none⟩)
  | 3 => v = .pointer (some ⟨fb, 0, none⟩)
  | 4 => v = .agg #[.int .i64 1, .string u, .string t, .string r, .string v0]
  | 5 => v = .tuple #[.agg #[.int .i64 q0, .string u0, .int .i64 g0, .string p0, .string b0], xv]
  | 6 => v = .tuple #[.agg #[.int .i64 q0, .string u0, .int .i64 g0, .string p0, .string b0], xv]
  | 7 => v = .agg #[.int .i64 q0, .string u0, .int .i64 g0, .string p0, .string b0]
  | 8 => v = xv
  | 9 => ∃ p, v = .pointer (some ⟨p, 0, none⟩)
  | 11 => v = xv
  | _ => True
def frD7P3 (sb : Nat) (eb : Nat) (zb : Nat) (p6 : Nat) (u : ByteArray) (t : ByteArray) (r : ByteArray) (v0 : ByteArray) (cs : ByteArray) (g1 : Nat → Value) (g : Nat → Value) : Act := { tmps := #[.pointer (some ⟨sb, 0, none⟩), .agg #[.int .i64 2, .string u, .string t, .string r, .string v0], undef, .pointer (some ⟨eb, 0, none⟩), .pointer (some ⟨zb, 0, none⟩), .nilIface, .pointer (some ⟨p6, 0, none⟩), g 7, .bool true, g 9, undef, g1 11, g1 12, g1 13, g1 14, g1 15, g1 16, g1 17, g1 18, g1 19, g1 20, g1 21, .nilIface, .bool true, .bool false, .pointer (some ⟨eb, 0, none⟩), .int .i64 2, .bool false, .bool false, undef, .bool false, .bool false, undef, undef, undef, undef, undef, .bool false, undef, undef, .bool false, .pointer (some ⟨eb, 0, none⟩), .int .i64 2, .bool true, .bool true, .bool true, .bool false, .bool false, .pointer (some ⟨p6, 2, none⟩), .string cs, .pointer (some ⟨eb, 1, none⟩), .string u, .bool false, .bool false, .bool false, undef, undef, g 57, g 58, g 59, g 60, g 61, g 62, g 63, g 64, g 65, undef, undef, undef, undef, undef, undef, undef, undef, undef, undef, undef, undef, undef, undef], defers := [] }
def dstD7P3 (i : Nat) : Nat := ([58, 59, 60, 61, 62, 63, 57, 64, 65, 9, 1010, 7] : List Nat).getD i (2000 + i)
def laysD7P3 (sb : Nat) (u : ByteArray) (t : ByteArray) (r : ByteArray) (v0 : ByteArray) (fb : Nat) (q0 : Int) (u0 : ByteArray) (g0 : Int) (p0 : ByteArray) (b0 : ByteArray) (xv : Value) (j : Nat) (v : Value) (_ : World) : Prop :=
  match j with
  | 0 => v = .pointer (some ⟨sb, 0, none⟩)
  | 1 => v = .pointer (some ⟨sb, 0, none⟩)
  | 2 => v = .pointer (some ⟨sb, 1, none⟩)
  | 3 => v = .pointer (some ⟨fb, 0, none⟩)
  | 4 => v = .agg #[.int .i64 2, .string u, .string t, .string r, .string v0]
  | 5 => v = .tuple #[.agg #[.int .i64 q0, .string u0, .int .i64 g0, .string p0, .string b0], xv]
  | 6 => v = .tuple #[.agg #[.int .i64 q0, .string u0, .int .i64 g0, .string p0, .string b0], xv]
  | 7 => v = .agg #[.int .i64 q0, .string u0, .int .i64 g0, .string p0, .string b0]
  | 8 => v = xv
  | 9 => ∃ p, v = .pointer (some ⟨p, 0, none⟩)
  | 11 => v = xv
  | _ => True
def frD7P4 (sb : Nat) (eb : Nat) (zb : Nat) (p6 : Nat) (k : Int) (u : ByteArray) (t : ByteArray) (r : ByteArray) (v0 : ByteArray) (g1 : Nat → Value) (g : Nat → Value) : Act := { tmps := #[.pointer (some ⟨sb, 0, none⟩), .agg #[.int .i64 k, .string u, .string t, .string r, .string v0], undef, .pointer (some ⟨eb, 0, none⟩), .pointer (some ⟨zb, 0, none⟩), .nilIface, .pointer (some ⟨p6, 0, none⟩), g 7, .bool false, g 9, undef, g1 11, g1 12, g1 13, g1 14, g1 15, g1 16, g1 17, g1 18, g1 19, g1 20, g1 21, errV 7, .bool false, .bool false, .pointer (some ⟨eb, 0, none⟩), .int .i64 k, .bool false, .bool false, undef, .bool false, .bool false, undef, undef, undef, undef, undef, .bool false, undef, undef, .bool false, .pointer (some ⟨eb, 0, none⟩), .int .i64 k, .bool false, .bool false, undef, undef, undef, undef, undef, undef, undef, undef, undef, .bool false, undef, undef, g 57, g 58, g 59, g 60, g 61, g 62, g 63, g 64, g 65, undef, undef, undef, undef, undef, undef, undef, undef, undef, undef, undef, undef, undef, undef], defers := [] }
def dstD7P4 (i : Nat) : Nat := ([58, 59, 60, 61, 62, 63, 57, 64, 65, 9, 1010, 7] : List Nat).getD i (2000 + i)
def laysD7P4 (sb : Nat) (k : Int) (u : ByteArray) (t : ByteArray) (r : ByteArray) (v0 : ByteArray) (fb : Nat) (q0 : Int) (u0 : ByteArray) (g0 : Int) (p0 : ByteArray) (b0 : ByteArray) (xv : Value) (j : Nat) (v : Value) (_ : World) : Prop :=
  match j with
  | 0 => v = .pointer (some ⟨sb, 0, none⟩)
  | 1 => v = .pointer (some ⟨sb, 0, none⟩)
  | 2 => v = .pointer (some ⟨sb, 1, none⟩)
  | 3 => v = .pointer (some ⟨fb, 0, none⟩)
  | 4 => v = .agg #[.int .i64 k, .string u, .string t, .string r, .string v0]
  | 5 => v = .tuple #[.agg #[.int .i64 q0, .string u0, .int .i64 g0, .string p0, .string b0], xv]
  | 6 => v = .tuple #[.agg #[.int .i64 q0, .string u0, .int .i64 g0, .string p0, .string b0], xv]
  | 7 => v = .agg #[.int .i64 q0, .string u0, .int .i64 g0, .string p0, .string b0]
  | 8 => v = xv
  | 9 => ∃ p, v = .pointer (some ⟨p, 0, none⟩)
  | 11 => v = xv
  | _ => True
def frD7P5 (sb : Nat) (eb : Nat) (zb : Nat) (p6 : Nat) (k : Int) (u : ByteArray) (t : ByteArray) (r : ByteArray) (v0 : ByteArray) (g1 : Nat → Value) (g : Nat → Value) : Act := { tmps := #[.pointer (some ⟨sb, 0, none⟩), .agg #[.int .i64 k, .string u, .string t, .string r, .string v0], undef, .pointer (some ⟨eb, 0, none⟩), .pointer (some ⟨zb, 0, none⟩), .nilIface, .pointer (some ⟨p6, 0, none⟩), g 7, .bool true, g 9, undef, g1 11, g1 12, g1 13, g1 14, g1 15, g1 16, g1 17, g1 18, g1 19, g1 20, g1 21, .nilIface, .bool true, .bool false, .pointer (some ⟨eb, 0, none⟩), .int .i64 k, .bool false, .bool false, undef, .bool false, .bool false, undef, undef, undef, undef, undef, .bool false, undef, undef, .bool false, .pointer (some ⟨eb, 0, none⟩), .int .i64 k, .bool false, .bool false, undef, undef, undef, undef, undef, undef, undef, undef, undef, .bool false, undef, undef, g 57, g 58, g 59, g 60, g 61, g 62, g 63, g 64, g 65, undef, undef, undef, undef, undef, undef, undef, undef, undef, undef, undef, undef, undef, undef], defers := [] }
def dstD7P5 (i : Nat) : Nat := ([58, 59, 60, 61, 62, 63, 57, 64, 65, 9, 1010, 7] : List Nat).getD i (2000 + i)
def laysD7P5 (sb : Nat) (k : Int) (u : ByteArray) (t : ByteArray) (r : ByteArray) (v0 : ByteArray) (fb : Nat) (q0 : Int) (u0 : ByteArray) (g0 : Int) (p0 : ByteArray) (b0 : ByteArray) (xv : Value) (j : Nat) (v : Value) (_ : World) : Prop :=
  match j with
  | 0 => v = .pointer (some ⟨sb, 0, none⟩)
  | 1 => v = .pointer (some ⟨sb, 0, none⟩)
  | 2 => v = .pointer (some ⟨sb, 1, none⟩)
  | 3 => v = .pointer (some ⟨fb, 0, none⟩)
  | 4 => v = .agg #[.int .i64 k, .string u, .string t, .string r, .string v0]
  | 5 => v = .tuple #[.agg #[.int .i64 q0, .string u0, .int .i64 g0, .string p0, .string b0], xv]
  | 6 => v = .tuple #[.agg #[.int .i64 q0, .string u0, .int .i64 g0, .string p0, .string b0], xv]
  | 7 => v = .agg #[.int .i64 q0, .string u0, .int .i64 g0, .string p0, .string b0]
  | 8 => v = xv
  | 9 => ∃ p, v = .pointer (some ⟨p, 0, none⟩)
  | 11 => v = xv
  | _ => True

set_option maxRecDepth 100000 in
set_option maxHeartbeats 8000000 in
theorem sdo_any (e : Ev) (w : World) (V F : Blk) (sb vb n : Nat) (sec : ByteArray) (S : SrcM) (h : srcIn w V F sb vb n sec S) (hG : Glob w F)
    (hz : e.subject.size ≤ 1048576 ∧ e.table.size ≤ 1048576 ∧ e.row.size ≤ 1048576) (hvz : e.value.size ≤ 1048576) (hsec : sec.size ≤ 1048576) (hn : n ≤ 1000000) (hm : S.many e.subject < 1000000) (hL : S.L.length < 100) :
    Calls Tryz.prog 23 #[.pointer (some ⟨sb, 0, none⟩), .agg (evV e)] w (DoPost e w V F sb vb n sec S) := by
  obtain ⟨fb, R, tm, h⟩ := h
  have HP : Hid (∀ r w', (r = .returned (.tuple #[.agg (recV (if doX S e = 0 then toldR sec S.many S.has S.L e else zeroR)), if doX S e = 0 then .nilIface else errV (doX S e)]) ∧ ∃ F', srcIn w' V F' sb vb (n + 3) sec (doS sec S e) ∧ step w w' F F') → DoPost e w V F sb vb n sec S r w') := Lib.hid fun _ _ h => h
  have GT := fun W hx => get_any e.table e.row W sb 2 (HS vb fb) rfl tm n S.T (h.tab.ext hx) (by unfold maxLen; omega) (by unfold maxLen; omega)
  have TL := fun W hv hf hG => ftell_any e W V R fb vb n sec S.many S.has S.L hv hf h.apartV hG hz hvz hsec hn hm hL
  have AP := fun W T' n' hn' h => apply_any e W sb 2 (HS vb fb) rfl tm n' T' h hn' hz
  simp only [answG_is] at GT
  have HDX : Hid (doX S e = if e.kind = 1 ∧ (findT (ek e) S.T).isSome = true ∧ txt ((findT (ek e) S.T).getD zeroC).subject ≠ txt e.subject then 13
    else if e.kind = 2 ∧ ¬ ((findT (ek e) S.T).isSome = true ∧ txt ((findT (ek e) S.T).getD zeroC).subject = txt e.subject) then 7 else tellX S.has e) := Lib.hid rfl
  unfold ek at HDX
  have HS0 := Lib.hid h
  have GG := Lib.hid hG
  obtain ⟨s0, s1, ls⟩ := h.cells
  clear h hG
  generalize DoPost e w V F sb vb n sec S = P at HP ⊢
  generalize (findT (txt e.table, txt e.row) S.T).isSome = f at GT HDX
  generalize (findT (txt e.table, txt e.row) S.T).getD zeroC = c at GT HDX
  obtain ⟨ca, cb, cs, cv⟩ := c
  generalize hev : (if f = true then Value.nilIface else errV 7) = ev0 at GT
  have HEV := Lib.hid hev
  clear hev
  generalize hxX : doX S e = X at HP HDX
  have HX := Lib.hid hxX
  clear hxX
  have H2 := two_new w (.cells (evV e) 51) (.cells (recV zeroR) 55)
  have X2 := Lib.hid (ext_alloc (.cells (recV zeroR) 55) (ext_alloc (.cells (evV e) 51) (ext_refl w)))
  have HE := Lib.hid H2.1
  have HZ := Lib.hid H2.2.1
  have SZ := Lib.hid H2.2.2
  clear H2
  have TL := Lib.hid TL
  have AP := Lib.hid AP
  unfold evV at HE HZ X2 SZ ⊢
  unfold recV zeroR at HZ HE X2 SZ
  unfold cellA at GT
  dsimp only at HE HZ X2 SZ GT HDX
  obtain ⟨k, u, t, r, v⟩ := e
  dsimp only at GT hz hvz hm HE HZ X2 SZ HDX ⊢
  go_enter Tryz.func23, Tryz.ntmps23
  go_wp2_with fail
  generalize (w.alloc (.cells #[.int .i64 k, .string u, .string t, .string r, .string v] 51)).alloc (.cells #[.int .i64 0, .string ⟨#[]⟩, .int .i64 0, .string ⟨#[]⟩, .string ⟨#[]⟩] 55) = W1 at HE HZ SZ X2 ⊢
  generalize hebE : w.heap.size = eb at *
  generalize hzbE : eb + 1 = zb at *
  have le1 := lt_of_heap HE.out
  clear s0 s1
  refine wp_region_slots (frD1 sb eb zb k u t r v) dstD1 (fun _ => undef) (laysD1 sb eb t r ca cb cs cv ev0) (fun L g w => newA 43 W1 #[.string ⟨#[]⟩, .string ⟨#[]⟩, .string ⟨#[]⟩, .string ⟨#[]⟩] #[.string ca, .string cb, .string cs, .string cv] (L 11) (L 12) (g 6) w) (fun w w' => True) (by kernel_rfl) (by kernel_rfl) rfl ?_ (by kernel_rfl) (newA.start _ _ _ _ _) ?_ ?_
  · exact fun _ _ _ _ _ h => h
  · refine ⟨?_, ?_, ?_, ?_, ?_, ?_, ?_, ?_, ?_, ?_, ?_, ?_, ?_, ?_, trivial⟩
    all_goals (intro L gs w1 hLi hdeps hR hC; refine ends_of fun Q hQ => ?_)
    · have HQ := fun (a' : Act) (va : Value) (w' : World) (h1 : a' = frD1 sb eb zb k u t r v (upd1 gs 12 va)) h2 (h3 : laysD1 sb eb t r ca cb cs cv ev0 0 va w') h4 => hQ.out a' w' ⟨va, h1, h2, h3, h4⟩
      unfold frD1
      go_wp2_with fail
      exact HQ _ (.pointer (some ⟨sb, 0, none⟩)) _ (by simp only [frD1, upd1, Nat.reduceEqDiff, reduceIte]) trivial rfl hC
    · have HQ := fun (a' : Act) (va : Value) (w' : World) (h1 : a' = frD1 sb eb zb k u t r v (upd1 gs 13 va)) h2 (h3 : laysD1 sb eb t r ca cb cs cv ev0 1 va w') h4 => hQ.out a' w' ⟨va, h1, h2, h3, h4⟩
      have r0 : gs 12 = .pointer (some ⟨sb, 0, none⟩) := hR 0 (hdeps ⟨0, .data⟩ (by simp) rfl)
      unfold frD1
      go_wp2_with fail
      exact HQ _ (.pointer (some ⟨sb, 0, none⟩)) _ (by simp only [frD1, upd1, r0, Nat.reduceEqDiff, reduceIte]) trivial rfl hC
    · have HQ := fun (a' : Act) (va : Value) (w' : World) (h1 : a' = frD1 sb eb zb k u t r v (upd1 gs 14 va)) h2 (h3 : laysD1 sb eb t r ca cb cs cv ev0 2 va w') h4 => hQ.out a' w' ⟨va, h1, h2, h3, h4⟩
      have r1 : gs 13 = .pointer (some ⟨sb, 0, none⟩) := hR 1 (hdeps ⟨1, .data⟩ (by simp) rfl)
      unfold frD1
      go_wp2_with fail
      exact HQ _ (.pointer (some ⟨sb, 2, none⟩)) _ (by simp only [frD1, upd1, r1, Nat.reduceEqDiff, reduceIte]) trivial rfl hC
    · have HQ := fun (a' : Act) (va : Value) (w' : World) (h1 : a' = frD1 sb eb zb k u t r v (upd1 gs 15 va)) h2 (h3 : laysD1 sb eb t r ca cb cs cv ev0 3 va w') h4 => hQ.out a' w' ⟨va, h1, h2, h3, h4⟩
      unfold frD1
      go_wp2_with fail
      exact HQ _ (.pointer (some ⟨eb, 2, none⟩)) _ (by simp only [frD1, upd1, Nat.reduceEqDiff, reduceIte]) trivial rfl hC
    · have HQ := fun (a' : Act) (va : Value) (w' : World) (h1 : a' = frD1 sb eb zb k u t r v (upd1 gs 16 va)) h2 (h3 : laysD1 sb eb t r ca cb cs cv ev0 4 va w') h4 => hQ.out a' w' ⟨va, h1, h2, h3, h4⟩
      have r3 : gs 15 = .pointer (some ⟨eb, 2, none⟩) := hR 3 (hdeps ⟨3, .data⟩ (by simp) rfl)
      have b0 := (hC.1.block _ le1).trans HE.out
      obtain ⟨c0, c1, c2, c3, c4⟩ := ev5 (e := ⟨k, u, t, r, v⟩) b0
      dsimp only at c0 c1 c2 c3 c4
      have lw1 : eb < w1.heap.size := lt_of_heap b0
      unfold frD1
      go_wp2_with fail
      exact HQ _ (.string t) _ (by simp only [frD1, upd1, r3, Nat.reduceEqDiff, reduceIte]) trivial rfl hC
    · have HQ := fun (a' : Act) (va : Value) (w' : World) (h1 : a' = frD1 sb eb zb k u t r v (upd1 gs 17 va)) h2 (h3 : laysD1 sb eb t r ca cb cs cv ev0 5 va w') h4 => hQ.out a' w' ⟨va, h1, h2, h3, h4⟩
      unfold frD1
      go_wp2_with fail
      exact HQ _ (.pointer (some ⟨eb, 3, none⟩)) _ (by simp only [frD1, upd1, Nat.reduceEqDiff, reduceIte]) trivial rfl hC
    · have HQ := fun (a' : Act) (va : Value) (w' : World) (h1 : a' = frD1 sb eb zb k u t r v (upd1 gs 18 va)) h2 (h3 : laysD1 sb eb t r ca cb cs cv ev0 6 va w') h4 => hQ.out a' w' ⟨va, h1, h2, h3, h4⟩
      have r5 : gs 17 = .pointer (some ⟨eb, 3, none⟩) := hR 5 (hdeps ⟨5, .data⟩ (by simp) rfl)
      have b0 := (hC.1.block _ le1).trans HE.out
      obtain ⟨c0, c1, c2, c3, c4⟩ := ev5 (e := ⟨k, u, t, r, v⟩) b0
      dsimp only at c0 c1 c2 c3 c4
      have lw1 : eb < w1.heap.size := lt_of_heap b0
      unfold frD1
      go_wp2_with fail
      exact HQ _ (.string r) _ (by simp only [frD1, upd1, r5, Nat.reduceEqDiff, reduceIte]) trivial rfl hC
    · have HQ := fun (a' : Act) (va : Value) (w' : World) (h1 : a' = frD1 sb eb zb k u t r v (upd1 gs 19 va)) h2 (h3 : laysD1 sb eb t r ca cb cs cv ev0 7 va w') h4 => hQ.out a' w' ⟨va, h1, h2, h3, h4⟩
      have r2 : gs 14 = .pointer (some ⟨sb, 2, none⟩) := hR 2 (hdeps ⟨2, .data⟩ (by simp) rfl)
      have r4 : gs 16 = .string t := hR 4 (hdeps ⟨4, .data⟩ (by simp) rfl)
      have r6 : gs 18 = .string r := hR 6 (hdeps ⟨6, .data⟩ (by simp) rfl)
      unfold frD1
      go_wp2_with fail
      refine (GT w1 (ext_trans X2.out (ext_of hC.1))).mono ?_
      rintro _ w4 ⟨rfl, hx⟩
      go_wp2_with fail
      exact HQ _ (.tuple #[.agg #[.string ca, .string cb, .string cs, .string cv], ev0]) _ (by simp only [frD1, upd1, r2, r4, r6, Nat.reduceEqDiff, reduceIte]) trivial rfl (newA.ext hC hx)
    · have HQ := fun (a' : Act) (va : Value) (w' : World) (h1 : a' = frD1 sb eb zb k u t r v (upd1 gs 11 va)) h2 (h3 : laysD1 sb eb t r ca cb cs cv ev0 8 va w') h4 => hQ.out a' w' ⟨va, h1, h2, h3, h4⟩
      have r7 : gs 19 = .tuple #[.agg #[.string ca, .string cb, .string cs, .string cv], ev0] := hR 7 (hdeps ⟨7, .data⟩ (by simp) rfl)
      unfold frD1
      go_wp2_with fail
      exact HQ _ (.tuple #[.agg #[.string ca, .string cb, .string cs, .string cv], ev0]) _ (by simp only [frD1, upd1, r7, Nat.reduceEqDiff, reduceIte]) trivial rfl hC
    · have HQ := fun (a' : Act) (va : Value) (w' : World) (h1 : a' = frD1 sb eb zb k u t r v (upd1 gs 20 va)) h2 (h3 : laysD1 sb eb t r ca cb cs cv ev0 9 va w') h4 => hQ.out a' w' ⟨va, h1, h2, h3, h4⟩
      have r8 : gs 11 = .tuple #[.agg #[.string ca, .string cb, .string cs, .string cv], ev0] := hR 8 (hdeps ⟨8, .data⟩ (by simp) rfl)
      unfold frD1
      go_wp2_with fail
      exact HQ _ (.agg #[.string ca, .string cb, .string cs, .string cv]) _ (by simp only [frD1, upd1, r8, Nat.reduceEqDiff, reduceIte]) trivial rfl hC
    · have HQ := fun (a' : Act) (va : Value) (w' : World) (h1 : a' = frD1 sb eb zb k u t r v (upd1 gs 21 va)) h2 (h3 : laysD1 sb eb t r ca cb cs cv ev0 10 va w') h4 => hQ.out a' w' ⟨va, h1, h2, h3, h4⟩
      have r8 : gs 11 = .tuple #[.agg #[.string ca, .string cb, .string cs, .string cv], ev0] := hR 8 (hdeps ⟨8, .data⟩ (by simp) rfl)
      unfold frD1
      go_wp2_with fail
      exact HQ _ (ev0) _ (by simp only [frD1, upd1, r8, Nat.reduceEqDiff, reduceIte]) trivial rfl hC
    · have HQ := fun (a' : Act) (va : Value) (w' : World) (h1 : a' = frD1 sb eb zb k u t r v (upd1 gs 6 va)) h2 (h3 : laysD1 sb eb t r ca cb cs cv ev0 11 va w') h4 => hQ.out a' w' ⟨va, h1, h2, h3, h4⟩
      unfold frD1
      go_wp2_with fail
      exact HQ _ (.pointer (some ⟨w1.heap.size, 0, none⟩)) _ (by simp only [frD1, upd1, Nat.reduceEqDiff, reduceIte]) trivial ⟨_, rfl⟩ (newA.made hC hLi)
    · have HQ := fun (a' : Act) (va : Value) (w' : World) (h1 : a' = frD1 sb eb zb k u t r v (upd1 gs 1012 va)) h2 (h3 : laysD1 sb eb t r ca cb cs cv ev0 12 va w') h4 => hQ.out a' w' ⟨va, h1, h2, h3, h4⟩
      have r9 : gs 20 = .agg #[.string ca, .string cb, .string cs, .string cv] := hR 9 (hdeps ⟨9, .data⟩ (by simp) rfl)
      have r11 := hR 11 (hdeps ⟨11, .data⟩ (by simp) rfl)
      obtain ⟨p, hp⟩ := r11
      change gs 6 = _ at hp
      have l11 : L 11 = true := hdeps ⟨11, .data⟩ (by simp) rfl
      obtain ⟨p', hp', hpl, hpb⟩ := hC.2.2 l11
      rw [hp] at hp'
      injection hp' with hp'
      injection hp' with hp'
      injection hp' with hp'
      subst hp'
      rw [show L 12 = false from hLi] at hpb
      have hpb : w1.heap[p]? = some (.cells #[.string ⟨#[]⟩, .string ⟨#[]⟩, .string ⟨#[]⟩, .string ⟨#[]⟩] 43 (0, 0)) := hpb
      have lw1 := lt_of_heap hpb
      have ff := free_of_heap hpb
      have HH := Lib.hid (setC4 hpb (.string ca) (.string cb) (.string cs) (.string cv))
      obtain ⟨z0, z1, z2, z3⟩ := cell_cells (c := zeroC) hpb
      unfold zeroC at z0 z1 z2 z3
      dsimp only at z0 z1 z2 z3
      clear hpb
      unfold frD1
      go_wp2_with fail
      exact HQ _ undef _ (by simp only [frD1, upd1, r9, hp, Nat.reduceEqDiff, reduceIte]) trivial trivial (newA.put hC l11 hp HH.out.1 HH.out.2)
    · have HQ := fun (a' : Act) (va : Value) (w' : World) (h1 : a' = frD1 sb eb zb k u t r v (upd1 gs 7 va)) h2 (h3 : laysD1 sb eb t r ca cb cs cv ev0 13 va w') h4 => hQ.out a' w' ⟨va, h1, h2, h3, h4⟩
      have r10 : gs 21 = ev0 := hR 10 (hdeps ⟨10, .data⟩ (by simp) rfl)
      unfold frD1
      go_wp2_with fail
      exact HQ _ (ev0) _ (by simp only [frD1, upd1, r10, Nat.reduceEqDiff, reduceIte]) trivial rfl hC
  intro L1 g1 w2 hall hR hC

  obtain ⟨p6, hp6, hpl, hpb⟩ := hC.2.2 (hall 11 (by decide))
  rw [hall 12 (by decide), if_pos rfl] at hpb
  have CB := Lib.hid hpb
  have s7 : g1 7 = ev0 := hR 13 (by decide)
  have B2 := Lib.hid hC.1
  have X3 := Lib.hid (ext_trans X2.out (ext_of hC.1))
  have E3 := Lib.hid ((hC.1.block _ le1).trans HE.out)
  have Z3 := Lib.hid ((hC.1.block _ (lt_of_heap HZ.out)).trans HZ.out)
  have P6 := Lib.hid (show eb + 2 ≤ p6 by have := SZ.out; omega)
  clear hC hall hR hpb hpl le1 HE HZ SZ X2 GT
  unfold frD1
  rw [hp6, s7]
  clear hp6 s7
  obtain ⟨c0, c1, c2, c3, c4⟩ := ev5 (e := ⟨k, u, t, r, v⟩) E3.out
  dsimp only at c0 c1 c2 c3 c4
  have le := lt_of_heap E3.out
  obtain ⟨d0, d1, d2, d3⟩ := cell_cells (c := ⟨ca, cb, cs, cv⟩) CB.out
  dsimp only at d0 d1 d2 d3
  have lp := lt_of_heap CB.out
  obtain ⟨y0, y1, y2, y3, y4⟩ := rec_cells (r := ⟨0, ⟨#[]⟩, 0, ⟨#[]⟩, ⟨#[]⟩⟩) Z3.out
  dsimp only at y0 y1 y2 y3 y4
  have lz := lt_of_heap Z3.out
  have fz := free_of_heap Z3.out
  have SR := Lib.hid (setRec5 Z3.out (.int .i64 0) (.string ⟨#[]⟩) (.int .i64 0) (.string ⟨#[]⟩) (.string ⟨#[]⟩))
  have hcs : cs.toList = txt cs := ByteArray.toList_eq _
  have hus : u.toList = txt u := ByteArray.toList_eq _
  have TXT := Lib.hid (show ((cs.toList == u.toList) = true → txt cs = txt u) ∧ ((cs.toList == u.toList) = false → txt cs ≠ txt u) from ⟨fun h => by have := eq_of_beq h; rw [hcs, hus] at this; exact this, fun h e => by rw [hcs, hus, e] at h; simp at h⟩)
  clear hcs hus
  have HS4 := Lib.hid (HS0.out.same (w' := w2) (fun i hi => (ext_iff.1 X3.out).block i (HS0.out.lt i hi)) (ext_iff.1 X3.out).size)
  have FL := Lib.hid (show ∀ i, F i → i < eb from fun i hi => by have := HS0.out.lt i hi; omega)
  have G4 := Lib.hid (GG.out.ext X3.out)
  have TL2 := fun W hv hf hG => (TL.out W hv hf hG).mono fun r w' h => told_all h
  generalize hrr : (if tellX S.has ⟨k, u, t, r, v⟩ = 0 then toldR sec S.many S.has S.L ⟨k, u, t, r, v⟩ else zeroR) = rr at TL2
  have HRR := Lib.hid hrr
  clear hrr
  generalize hxv : (if tellX S.has ⟨k, u, t, r, v⟩ = 0 then Value.nilIface else errV (tellX S.has ⟨k, u, t, r, v⟩)) = xv at TL2
  have HXV := Lib.hid hxv
  clear hxv
  generalize hmm2 : (if tellX S.has ⟨k, u, t, r, v⟩ = 0 then toldMany S.many S.has ⟨k, u, t, r, v⟩ else S.many) = many2 at TL2
  have HM2 := Lib.hid hmm2
  clear hmm2
  generalize hhh2 : (if tellX S.has ⟨k, u, t, r, v⟩ = 0 then toldHas S.has ⟨k, u, t, r, v⟩ else S.has) = has2 at TL2
  have HH2 := Lib.hid hhh2
  clear hhh2
  generalize hll2 : (if tellX S.has ⟨k, u, t, r, v⟩ = 0 then S.L ++ [toldR sec S.many S.has S.L ⟨k, u, t, r, v⟩] else S.L) = L2 at TL2
  have HL2 := Lib.hid hll2
  clear hll2
  obtain ⟨q0, u0, g0, p0, b0⟩ := rr
  unfold recV evV at TL2
  dsimp only at TL2
  have TL2 := Lib.hid TL2
  have ZF : Hid (¬ F zb) := Lib.hid fun h => by have := FL.out _ h; omega
  have EF : Hid (¬ F eb) := Lib.hid fun h => by have := FL.out _ h; omega
  have KS2 := Lib.hid (step.of_ext F X3.out)
  clear TL HS0 GG
  by_cases k1 : k = 1
  · subst k1
    cases f with
    | false =>
      obtain rfl : errV 7 = ev0 := HEV.out
      go_wp2_with fail
      have HXT : Hid (X = tellX S.has ⟨1, u, t, r, v⟩) := Lib.hid (HDX.out.trans ((if_neg (fun h => by cases h.2.1)).trans (if_neg (fun h => absurd h.1 (by decide)))))
      clear c0 c1 c2 c3 c4 d0 d1 d2 d3 y0 y1 y2 y3 y4 le lp lz fz SR HDX
      generalize hW2 : w2 = W2 at *
      refine wp_region_slots (frD7P1 sb eb zb p6 u t r v g1) dstD7P1 (fun k => if k = 7 then errV 7 else undef) (laysD7P1 sb u t r v fb q0 u0 g0 p0 b0 xv) (fun L g w => tellC V R fb vb n sec S.many many2 S.has has2 S.L L2 #[.int .i64 0, .string ⟨#[]⟩, .int .i64 0, .string ⟨#[]⟩, .string ⟨#[]⟩] #[.int .i64 q0, .string u0, .int .i64 g0, .string p0, .string b0] W2 (L 5) (L 9) (L 10) (g 9) w) (fun w w' => True) (by kernel_rfl) (by kernel_rfl) rfl ?_ (by kernel_rfl) (tellC.start HS4.out.vault HS4.out.feed) ?_ ?_
      · exact fun _ _ _ _ _ h => h
      · refine ⟨?_, ?_, ?_, ?_, ?_, ?_, ?_, ?_, ?_, ?_, ?_, ?_, trivial⟩
        all_goals (intro L gs w1 hLi hdeps hR hC; refine ends_of fun Q hQ => ?_)
        · have HQ := fun (a' : Act) (va : Value) (w' : World) (h1 : a' = frD7P1 sb eb zb p6 u t r v g1 (upd1 gs 58 va)) h2 (h3 : laysD7P1 sb u t r v fb q0 u0 g0 p0 b0 xv 0 va w') h4 => hQ.out a' w' ⟨va, h1, h2, h3, h4⟩
          unfold frD7P1
          go_wp2_with fail
          exact HQ _ (.pointer (some ⟨sb, 0, none⟩)) _ (by simp only [frD7P1, upd1, Nat.reduceEqDiff, reduceIte]) trivial rfl hC
        · have HQ := fun (a' : Act) (va : Value) (w' : World) (h1 : a' = frD7P1 sb eb zb p6 u t r v g1 (upd1 gs 59 va)) h2 (h3 : laysD7P1 sb u t r v fb q0 u0 g0 p0 b0 xv 1 va w') h4 => hQ.out a' w' ⟨va, h1, h2, h3, h4⟩
          have r0 : gs 58 = .pointer (some ⟨sb, 0, none⟩) := hR 0 (hdeps ⟨0, .data⟩ (by simp) rfl)
          unfold frD7P1
          go_wp2_with fail
          exact HQ _ (.pointer (some ⟨sb, 0, none⟩)) _ (by simp only [frD7P1, upd1, r0, Nat.reduceEqDiff, reduceIte]) trivial rfl hC
        · have HQ := fun (a' : Act) (va : Value) (w' : World) (h1 : a' = frD7P1 sb eb zb p6 u t r v g1 (upd1 gs 60 va)) h2 (h3 : laysD7P1 sb u t r v fb q0 u0 g0 p0 b0 xv 2 va w') h4 => hQ.out a' w' ⟨va, h1, h2, h3, h4⟩
          have r1 : gs 59 = .pointer (some ⟨sb, 0, none⟩) := hR 1 (hdeps ⟨1, .data⟩ (by simp) rfl)
          unfold frD7P1
          go_wp2_with fail
          exact HQ _ (.pointer (some ⟨sb, 1, none⟩)) _ (by simp only [frD7P1, upd1, r1, Nat.reduceEqDiff, reduceIte]) trivial rfl hC
        · have HQ := fun (a' : Act) (va : Value) (w' : World) (h1 : a' = frD7P1 sb eb zb p6 u t r v g1 (upd1 gs 61 va)) h2 (h3 : laysD7P1 sb u t r v fb q0 u0 g0 p0 b0 xv 3 va w') h4 => hQ.out a' w' ⟨va, h1, h2, h3, h4⟩
          have r2 : gs 60 = .pointer (some ⟨sb, 1, none⟩) := hR 2 (hdeps ⟨2, .data⟩ (by simp) rfl)
          have hb0 := (hC.keep HS4.out.cells.2.2 (by rintro (h | h); exact HS4.out.sb_.2.1 h; exact HS4.out.sb_.2.2 h)).trans HS4.out.tab.blk
          have c1 : w1.cell? ⟨sb, 1, none⟩ = some (.pointer (some ⟨fb, 0, none⟩)) := by rw [cell_in, hb0]; rfl
          have lw1 : sb < w1.heap.size := lt_of_heap hb0
          unfold frD7P1
          go_wp2_with fail
          exact HQ _ (.pointer (some ⟨fb, 0, none⟩)) _ (by simp only [frD7P1, upd1, r2, Nat.reduceEqDiff, reduceIte]) trivial rfl hC
        · have HQ := fun (a' : Act) (va : Value) (w' : World) (h1 : a' = frD7P1 sb eb zb p6 u t r v g1 (upd1 gs 62 va)) h2 (h3 : laysD7P1 sb u t r v fb q0 u0 g0 p0 b0 xv 4 va w') h4 => hQ.out a' w' ⟨va, h1, h2, h3, h4⟩
          have hb0 := (hC.keep (lt_of_heap E3.out) (by rintro (h | h); exact EF.out (HS4.out.subV _ h); exact EF.out (HS4.out.subR _ h))).trans E3.out
          obtain ⟨c0, c1, c2, c3, c4⟩ := ev5 (e := ⟨1, u, t, r, v⟩) hb0
          dsimp only at c0 c1 c2 c3 c4
          have lw1 : eb < w1.heap.size := lt_of_heap hb0
          unfold frD7P1
          go_wp2_with fail
          exact HQ _ (.agg #[.int .i64 1, .string u, .string t, .string r, .string v]) _ (by simp only [frD7P1, upd1, Nat.reduceEqDiff, reduceIte]) trivial rfl hC
        · have HQ := fun (a' : Act) (va : Value) (w' : World) (h1 : a' = frD7P1 sb eb zb p6 u t r v g1 (upd1 gs 63 va)) h2 (h3 : laysD7P1 sb u t r v fb q0 u0 g0 p0 b0 xv 5 va w') h4 => hQ.out a' w' ⟨va, h1, h2, h3, h4⟩
          have r3 : gs 61 = .pointer (some ⟨fb, 0, none⟩) := hR 3 (hdeps ⟨3, .data⟩ (by simp) rfl)
          have r4 : gs 62 = .agg #[.int .i64 1, .string u, .string t, .string r, .string v] := hR 4 (hdeps ⟨4, .data⟩ (by simp) rfl)
          have hbf := hC.before hLi
          obtain ⟨F2, hs2, hs3⟩ := hC.stepF HS4.out
          have hgl := ((G4.out.step hs2).sub (G := fun i => V i ∨ R i) (fun i h => hs3 i (HS4.out.subVR i h)))
          have HG := Lib.hid hgl
          have HBF := Lib.hid hbf
          clear hbf hgl hs2 hs3
          unfold frD7P1
          go_wp2_with fail
          refine (TL2.out w1 HBF.out.1 HBF.out.2 HG.out).mono ?_
          rintro _ w5 ⟨rfl, hts⟩
          go_wp2_with fail
          exact HQ _ (.tuple #[.agg #[.int .i64 q0, .string u0, .int .i64 g0, .string p0, .string b0], xv]) _ (by simp only [frD7P1, upd1, r3, r4, Nat.reduceEqDiff, reduceIte]) trivial rfl (hC.call hLi hts)
        · have HQ := fun (a' : Act) (va : Value) (w' : World) (h1 : a' = frD7P1 sb eb zb p6 u t r v g1 (upd1 gs 57 va)) h2 (h3 : laysD7P1 sb u t r v fb q0 u0 g0 p0 b0 xv 6 va w') h4 => hQ.out a' w' ⟨va, h1, h2, h3, h4⟩
          have r5 : gs 63 = .tuple #[.agg #[.int .i64 q0, .string u0, .int .i64 g0, .string p0, .string b0], xv] := hR 5 (hdeps ⟨5, .data⟩ (by simp) rfl)
          unfold frD7P1
          go_wp2_with fail
          exact HQ _ (.tuple #[.agg #[.int .i64 q0, .string u0, .int .i64 g0, .string p0, .string b0], xv]) _ (by simp only [frD7P1, upd1, r5, Nat.reduceEqDiff, reduceIte]) trivial rfl hC
        · have HQ := fun (a' : Act) (va : Value) (w' : World) (h1 : a' = frD7P1 sb eb zb p6 u t r v g1 (upd1 gs 64 va)) h2 (h3 : laysD7P1 sb u t r v fb q0 u0 g0 p0 b0 xv 7 va w') h4 => hQ.out a' w' ⟨va, h1, h2, h3, h4⟩
          have r6 : gs 57 = .tuple #[.agg #[.int .i64 q0, .string u0, .int .i64 g0, .string p0, .string b0], xv] := hR 6 (hdeps ⟨6, .data⟩ (by simp) rfl)
          unfold frD7P1
          go_wp2_with fail
          exact HQ _ (.agg #[.int .i64 q0, .string u0, .int .i64 g0, .string p0, .string b0]) _ (by simp only [frD7P1, upd1, r6, Nat.reduceEqDiff, reduceIte]) trivial rfl hC
        · have HQ := fun (a' : Act) (va : Value) (w' : World) (h1 : a' = frD7P1 sb eb zb p6 u t r v g1 (upd1 gs 65 va)) h2 (h3 : laysD7P1 sb u t r v fb q0 u0 g0 p0 b0 xv 8 va w') h4 => hQ.out a' w' ⟨va, h1, h2, h3, h4⟩
          have r6 : gs 57 = .tuple #[.agg #[.int .i64 q0, .string u0, .int .i64 g0, .string p0, .string b0], xv] := hR 6 (hdeps ⟨6, .data⟩ (by simp) rfl)
          unfold frD7P1
          go_wp2_with fail
          exact HQ _ (xv) _ (by simp only [frD7P1, upd1, r6, Nat.reduceEqDiff, reduceIte]) trivial rfl hC
        · have HQ := fun (a' : Act) (va : Value) (w' : World) (h1 : a' = frD7P1 sb eb zb p6 u t r v g1 (upd1 gs 9 va)) h2 (h3 : laysD7P1 sb u t r v fb q0 u0 g0 p0 b0 xv 9 va w') h4 => hQ.out a' w' ⟨va, h1, h2, h3, h4⟩
          unfold frD7P1
          go_wp2_with fail
          exact HQ _ (.pointer (some ⟨w1.heap.size, 0, none⟩)) _ (by simp only [frD7P1, upd1, Nat.reduceEqDiff, reduceIte]) trivial ⟨_, rfl⟩ (hC.made hLi)
        · have HQ := fun (a' : Act) (va : Value) (w' : World) (h1 : a' = frD7P1 sb eb zb p6 u t r v g1 (upd1 gs 1010 va)) h2 (h3 : laysD7P1 sb u t r v fb q0 u0 g0 p0 b0 xv 10 va w') h4 => hQ.out a' w' ⟨va, h1, h2, h3, h4⟩
          have r7 : gs 64 = .agg #[.int .i64 q0, .string u0, .int .i64 g0, .string p0, .string b0] := hR 7 (hdeps ⟨7, .data⟩ (by simp) rfl)
          have r9 := hR 9 (hdeps ⟨9, .data⟩ (by simp) rfl)
          have HC := Lib.hid hC
          obtain ⟨p, hp⟩ := r9
          change gs 9 = _ at hp
          have l9 : L 9 = true := hdeps ⟨9, .data⟩ (by simp) rfl
          obtain ⟨_, _, _, _, h4⟩ := hC
          obtain ⟨p', hp', hpl, hpb, _, _⟩ := h4 l9
          rw [hp] at hp'
          injection hp' with hp'
          injection hp' with hp'
          injection hp' with hp'
          subst hp'
          rw [show L 10 = false from hLi] at hpb
          have hpb : w1.heap[p]? = some (.cells #[.int .i64 0, .string ⟨#[]⟩, .int .i64 0, .string ⟨#[]⟩, .string ⟨#[]⟩] 55 (0, 0)) := hpb
          have lw1 := lt_of_heap hpb
          have ff := free_of_heap hpb
          have HH := Lib.hid (setRec5 hpb (.int .i64 q0) (.string u0) (.int .i64 g0) (.string p0) (.string b0))
          obtain ⟨z0, z1, z2, z3, z4⟩ := rec_cells (r := ⟨0, ⟨#[]⟩, 0, ⟨#[]⟩, ⟨#[]⟩⟩) hpb
          dsimp only at z0 z1 z2 z3 z4
          clear hpb h4
          unfold frD7P1
          go_wp2_with fail
          exact HQ _ undef _ (by simp only [frD7P1, upd1, r7, hp, Nat.reduceEqDiff, reduceIte]) trivial trivial (HC.out.put l9 hp HH.out.1 HH.out.2)
        · have HQ := fun (a' : Act) (va : Value) (w' : World) (h1 : a' = frD7P1 sb eb zb p6 u t r v g1 (upd1 gs 7 va)) h2 (h3 : laysD7P1 sb u t r v fb q0 u0 g0 p0 b0 xv 11 va w') h4 => hQ.out a' w' ⟨va, h1, h2, h3, h4⟩
          have r8 : gs 65 = xv := hR 8 (hdeps ⟨8, .data⟩ (by simp) rfl)
          unfold frD7P1
          go_wp2_with fail
          exact HQ _ (xv) _ (by simp only [frD7P1, upd1, r8, Nat.reduceEqDiff, reduceIte]) trivial rfl hC
      intro L7 g7 w8 hall hR hC
      obtain ⟨R', h1, ⟨h2, h2'⟩, h3, h4⟩ := hC
      rw [hall 5 (by decide), if_pos rfl] at h1
      obtain ⟨p9, hp9, hpl, hpb, hnV, hnR⟩ := h4 (hall 9 (by decide))
      rw [hall 10 (by decide), if_pos rfl] at hpb
      have s7 : g7 7 = xv := hR 11 (by decide)
      have V8 := Lib.hid h1.1
      have F8 := Lib.hid h1.2
      have ST8 := Lib.hid h2
      have NR8 := Lib.hid h2'
      have HP9 := Lib.hid hpb
      have ZL := Lib.hid (lt_of_heap Z3.out)
      have PL9 := Lib.hid hpl
      have hzk := h2.keep (lt_of_heap Z3.out) (by rintro (h | h); exact ZF.out (HS4.out.subV _ h); exact ZF.out (HS4.out.subR _ h))
      have hek := h2.keep (lt_of_heap E3.out) (by rintro (h | h); exact EF.out (HS4.out.subV _ h); exact EF.out (HS4.out.subR _ h))
      have Z8 := Lib.hid (hzk.1.trans Z3.out)
      have E8 := Lib.hid (hek.1.trans E3.out)
      have hbs := h2.keep HS4.out.cells.2.2 (by rintro (h | h); exact HS4.out.sb_.2.1 h; exact HS4.out.sb_.2.2 h)
      have T8 := Lib.hid ((HS4.out.tab.same hbs.1 (fun b hb => (h2.keep (HS4.out.lt _ (HS4.out.tm_ b hb).1) (by rintro (h | h); exact (HS4.out.tm_ b hb).2.1 h; exact (HS4.out.tm_ b hb).2.2 h)).1)).mono (by omega : n ≤ n + 2))
      clear h1 h2 h2' h3 h4 hpl hpb hnV hnR hall hR hzk hek hbs E3 Z3
      unfold frD7P1
      rw [hp9, s7]
      clear hp9 s7
      obtain ⟨y0, y1, y2, y3, y4⟩ := rec_cells (r := ⟨0, ⟨#[]⟩, 0, ⟨#[]⟩, ⟨#[]⟩⟩) Z8.out
      dsimp only at y0 y1 y2 y3 y4
      have lz := lt_of_heap Z8.out
      have fz := free_of_heap Z8.out
      by_cases hx0 : tellX S.has ⟨1, u, t, r, v⟩ = 0
      · obtain rfl : Value.nilIface = xv := by rw [← HXV.out, if_pos hx0]
        have hright := (tellX_right hx0).1
        have AP8 := fun W h => AP.out W S.T (n + 2) (by omega) h
        rw [hright, if_pos rfl, show applyT okV ⟨1, u, t, r, v⟩ S.T = stepT ⟨1, u, t, r, v⟩ S.T by unfold applyT; rw [if_pos hright]] at AP8
        have HX0 := Lib.hid hx0
        clear hx0 hright AP TL2
        unfold evV at AP8
        dsimp only at AP8
        have AP8 := Lib.hid AP8
        obtain ⟨c0, c1, c2, c3, c4⟩ := ev5 (e := ⟨1, u, t, r, v⟩) E8.out
        dsimp only at c0 c1 c2 c3 c4
        have le := lt_of_heap E8.out
        go_wp2_with fail
        refine wp_region_tail 4 (by kernel_rfl) (by kernel_rfl) ?_
        simp only [List.take_succ_cons, List.take_zero, List.drop_succ_cons, List.drop_zero]
        repeat (go_big_quiet_step (fail))
        refine wpQuiet_nil ?_
        rintro _ ⟨x, rfl⟩
        have HX8 := Lib.hid (ext_trans (ext_refl w8) ⟨x, rfl⟩)
        generalize ext w8 x = wx at HX8 ⊢
        clear c0 c1 c2 c3 c4 le y0 y1 y2 y3 y4 lz fz
        have AP8 := AP8.out wx (T8.out.ext HX8.out)
        go_wp2_with fail
        refine AP8.mono ?_
        rintro _ w10 ⟨rfl, mb', t1, t2, t3, kk⟩
        have hkx := ((kept2.refl w8 sb tm).ext HX8.out).trans kk (fun b hb => .inl hb)
        have htl : ∀ b, tm = some b → b < W2.heap.size := fun b hb => HS4.out.lt _ (HS4.out.tm_ b hb).1
        have hsl := HS4.out.cells.2.2
        have HP10 := Lib.hid ((hkx.block p9 (lt_of_heap HP9.out) (fun e => by have := PL9.out; omega) (fun e => by have := htl p9 e.symm; have := PL9.out; omega)).trans HP9.out)
        have Z10 := Lib.hid ((hkx.block zb (lt_of_heap Z8.out) (fun e => ZF.out (e ▸ HS4.out.sb_.1)) (fun e => ZF.out (HS4.out.tm_ zb e.symm).1)).trans Z8.out)
        have TLD := Lib.hid (HS4.out.told ST8.out NR8.out V8.out F8.out t1 t2 (fun e b hb => Nat.le_trans (ext_iff.1 HX8.out).size (t3 e b hb)) hkx)
        clear t1 t2 t3 kk hkx htl hsl AP8 T8 HX8 HP9 Z8 E8
        obtain ⟨z0, z1, z2, z3, z4⟩ := rec_cells (r := ⟨q0, u0, g0, p0, b0⟩) HP10.out
        dsimp only at z0 z1 z2 z3 z4
        have lp := lt_of_heap HP10.out
        obtain ⟨y0, y1, y2, y3, y4⟩ := rec_cells (r := ⟨0, ⟨#[]⟩, 0, ⟨#[]⟩, ⟨#[]⟩⟩) Z10.out
        dsimp only at y0 y1 y2 y3 y4
        have lz := lt_of_heap Z10.out
        have fz := free_of_heap Z10.out
        have SR := Lib.hid (setRec5 Z10.out (.int .i64 q0) (.string u0) (.int .i64 g0) (.string p0) (.string b0))
        go_wp2_with fail
        generalize (((((w10.setCell ⟨zb, 0, none⟩ (.int .i64 q0)).setCell ⟨zb, 1, none⟩ (.string u0)).setCell ⟨zb, 2, none⟩ (.int .i64 g0)).setCell ⟨zb, 3, none⟩ (.string p0)).setCell ⟨zb, 4, none⟩ (.string b0)) = w9 at SR ⊢
        obtain ⟨SR1, SR2⟩ := SR.out
        have hX : X = 0 := HXT.out.trans HX0.out
        obtain ⟨F', hsr, hst⟩ := TLD.out
        rw [← HM2.out, ← HH2.out, ← HL2.out, if_pos HX0.out, if_pos HX0.out, if_pos HX0.out] at hsr
        have hzF : ¬ F' zb := fun h => (hst.sub _ h).elim (fun h => ZF.out h) (fun h => by have := ZL.out; omega)
        have hRR := HRR.out
        rw [if_pos HX0.out] at hRR
        exact ret_cells rfl rfl SR1 Tryz.underlying55 rfl (by kernel_rfl) rfl rfl (HP.out _ _ ⟨by rw [hX, if_pos rfl, if_pos rfl, hRR]; rfl, F', by rw [doS_yes (by rw [HX.out]; exact hX)]; exact hsr.same (fun i hi => SR2.block i (hsr.lt i hi) (fun e => by injection e with e; subst e; exact hzF hi)) SR2.size, (KS2.out.trans hst).put SR2 (.inr (by omega))⟩)
      · obtain rfl : errV (tellX S.has ⟨1, u, t, r, v⟩) = xv := by rw [← HXV.out, if_neg hx0]
        have hX : X ≠ 0 := by rw [HXT.out]; exact hx0
        have SR := Lib.hid (setRec5 Z8.out (.int .i64 0) (.string ⟨#[]⟩) (.int .i64 0) (.string ⟨#[]⟩) (.string ⟨#[]⟩))
        have HM3 := Lib.hid (HM2.out.symm.trans (if_neg hx0))
        have HH3 := Lib.hid (HH2.out.symm.trans (if_neg hx0))
        have HL3 := Lib.hid (HL2.out.symm.trans (if_neg hx0))
        have HXT := Lib.hid HXT.out
        clear hx0 AP TL2
        generalize tellX S.has ⟨1, u, t, r, v⟩ = x8 at HXT ⊢
        have HNE := Lib.hid hX
        clear hX
        go_wp2_with fail
        generalize (((((w8.setCell ⟨zb, 0, none⟩ (.int .i64 0)).setCell ⟨zb, 1, none⟩ (.string ⟨#[]⟩)).setCell ⟨zb, 2, none⟩ (.int .i64 0)).setCell ⟨zb, 3, none⟩ (.string ⟨#[]⟩)).setCell ⟨zb, 4, none⟩ (.string ⟨#[]⟩)) = w9 at SR ⊢
        obtain ⟨SR1, SR2⟩ := SR.out
        have V9 := V8.out
        have F9 := F8.out
        rw [HM3.out, HH3.out] at V9
        rw [HL3.out] at F9
        obtain ⟨F', hsr, hst⟩ := HS4.out.refused ST8.out NR8.out V9 F9
        have hzF : ¬ F' zb := fun h => (hst.sub _ h).elim (fun h => ZF.out h) (fun h => by have := ZL.out; omega)
        exact ret_cells rfl rfl SR1 Tryz.underlying55 rfl (by kernel_rfl) rfl rfl (HP.out _ _ ⟨by rw [if_neg HNE.out, if_neg HNE.out, HXT.out]; rfl, F', by rw [doS_no (by rw [HX.out]; exact HNE.out)]; exact hsr.same (fun i hi => SR2.block i (hsr.lt i hi) (fun e => by injection e with e; subst e; exact hzF hi)) SR2.size, (KS2.out.trans hst).put SR2 (.inr (by omega))⟩)
    | true =>
      obtain rfl : Value.nilIface = ev0 := HEV.out
      cases hq : (cs.toList == u.toList) with
      | false =>
        go_wp2_with fail
        generalize (((((w2.setCell ⟨zb, 0, none⟩ (.int .i64 0)).setCell ⟨zb, 1, none⟩ (.string ⟨#[]⟩)).setCell ⟨zb, 2, none⟩ (.int .i64 0)).setCell ⟨zb, 3, none⟩ (.string ⟨#[]⟩)).setCell ⟨zb, 4, none⟩ (.string ⟨#[]⟩)) = w9 at SR ⊢
        obtain ⟨SR1, SR2⟩ := SR.out
        have hX : X = 13 := HDX.out.trans (by rw [if_pos ⟨by trivial, by trivial, TXT.out.2 hq⟩])
        have hne : X ≠ 0 := by rw [hX]; decide
        have SRC : srcIn w9 V F sb vb n sec S := srcIn.same ⟨fb, R, tm, HS4.out⟩ (fun i hi => SR2.block i (HS4.out.lt i hi) (fun e => by injection e with e; subst e; exact ZF.out hi)) SR2.size
        exact ret_cells rfl rfl SR1 Tryz.underlying55 rfl (by kernel_rfl) rfl rfl (HP.out _ _ ⟨by rw [if_neg hne, if_neg hne, hX]; rfl, F, by rw [doS_no (by rw [HX.out]; exact hne)]; exact SRC.mono (by omega), KS2.out.put SR2 (.inr (by omega))⟩)
      | true =>
        go_wp2_with fail
        have HXT : Hid (X = tellX S.has ⟨1, u, t, r, v⟩) := Lib.hid (HDX.out.trans ((if_neg (fun h => h.2.2 (TXT.out.1 hq))).trans (if_neg (fun h => absurd h.1 (by decide)))))
        clear c0 c1 c2 c3 c4 d0 d1 d2 d3 y0 y1 y2 y3 y4 le lp lz fz SR HDX
        generalize hW2 : w2 = W2 at *
        refine wp_region_slots (frD7P2 sb eb zb p6 u t r v cs g1) dstD7P2 (fun k => if k = 7 then .nilIface else undef) (laysD7P2 sb u t r v fb q0 u0 g0 p0 b0 xv) (fun L g w => tellC V R fb vb n sec S.many many2 S.has has2 S.L L2 #[.int .i64 0, .string ⟨#[]⟩, .int .i64 0, .string ⟨#[]⟩, .string ⟨#[]⟩] #[.int .i64 q0, .string u0, .int .i64 g0, .string p0, .string b0] W2 (L 5) (L 9) (L 10) (g 9) w) (fun w w' => True) (by kernel_rfl) (by kernel_rfl) rfl ?_ (by kernel_rfl) (tellC.start HS4.out.vault HS4.out.feed) ?_ ?_
        · exact fun _ _ _ _ _ h => h
        · refine ⟨?_, ?_, ?_, ?_, ?_, ?_, ?_, ?_, ?_, ?_, ?_, ?_, trivial⟩
          all_goals (intro L gs w1 hLi hdeps hR hC; refine ends_of fun Q hQ => ?_)
          · have HQ := fun (a' : Act) (va : Value) (w' : World) (h1 : a' = frD7P2 sb eb zb p6 u t r v cs g1 (upd1 gs 58 va)) h2 (h3 : laysD7P2 sb u t r v fb q0 u0 g0 p0 b0 xv 0 va w') h4 => hQ.out a' w' ⟨va, h1, h2, h3, h4⟩
            unfold frD7P2
            go_wp2_with fail
            exact HQ _ (.pointer (some ⟨sb, 0, none⟩)) _ (by simp only [frD7P2, upd1, Nat.reduceEqDiff, reduceIte]) trivial rfl hC
          · have HQ := fun (a' : Act) (va : Value) (w' : World) (h1 : a' = frD7P2 sb eb zb p6 u t r v cs g1 (upd1 gs 59 va)) h2 (h3 : laysD7P2 sb u t r v fb q0 u0 g0 p0 b0 xv 1 va w') h4 => hQ.out a' w' ⟨va, h1, h2, h3, h4⟩
            have r0 : gs 58 = .pointer (some ⟨sb, 0, none⟩) := hR 0 (hdeps ⟨0, .data⟩ (by simp) rfl)
            unfold frD7P2
            go_wp2_with fail
            exact HQ _ (.pointer (some ⟨sb, 0, none⟩)) _ (by simp only [frD7P2, upd1, r0, Nat.reduceEqDiff, reduceIte]) trivial rfl hC
          · have HQ := fun (a' : Act) (va : Value) (w' : World) (h1 : a' = frD7P2 sb eb zb p6 u t r v cs g1 (upd1 gs 60 va)) h2 (h3 : laysD7P2 sb u t r v fb q0 u0 g0 p0 b0 xv 2 va w') h4 => hQ.out a' w' ⟨va, h1, h2, h3, h4⟩
            have r1 : gs 59 = .pointer (some ⟨sb, 0, none⟩) := hR 1 (hdeps ⟨1, .data⟩ (by simp) rfl)
            unfold frD7P2
            go_wp2_with fail
            exact HQ _ (.pointer (some ⟨sb, 1, none⟩)) _ (by simp only [frD7P2, upd1, r1, Nat.reduceEqDiff, reduceIte]) trivial rfl hC
          · have HQ := fun (a' : Act) (va : Value) (w' : World) (h1 : a' = frD7P2 sb eb zb p6 u t r v cs g1 (upd1 gs 61 va)) h2 (h3 : laysD7P2 sb u t r v fb q0 u0 g0 p0 b0 xv 3 va w') h4 => hQ.out a' w' ⟨va, h1, h2, h3, h4⟩
            have r2 : gs 60 = .pointer (some ⟨sb, 1, none⟩) := hR 2 (hdeps ⟨2, .data⟩ (by simp) rfl)
            have hb0 := (hC.keep HS4.out.cells.2.2 (by rintro (h | h); exact HS4.out.sb_.2.1 h; exact HS4.out.sb_.2.2 h)).trans HS4.out.tab.blk
            have c1 : w1.cell? ⟨sb, 1, none⟩ = some (.pointer (some ⟨fb, 0, none⟩)) := by rw [cell_in, hb0]; rfl
            have lw1 : sb < w1.heap.size := lt_of_heap hb0
            unfold frD7P2
            go_wp2_with fail
            exact HQ _ (.pointer (some ⟨fb, 0, none⟩)) _ (by simp only [frD7P2, upd1, r2, Nat.reduceEqDiff, reduceIte]) trivial rfl hC
          · have HQ := fun (a' : Act) (va : Value) (w' : World) (h1 : a' = frD7P2 sb eb zb p6 u t r v cs g1 (upd1 gs 62 va)) h2 (h3 : laysD7P2 sb u t r v fb q0 u0 g0 p0 b0 xv 4 va w') h4 => hQ.out a' w' ⟨va, h1, h2, h3, h4⟩
            have hb0 := (hC.keep (lt_of_heap E3.out) (by rintro (h | h); exact EF.out (HS4.out.subV _ h); exact EF.out (HS4.out.subR _ h))).trans E3.out
            obtain ⟨c0, c1, c2, c3, c4⟩ := ev5 (e := ⟨1, u, t, r, v⟩) hb0
            dsimp only at c0 c1 c2 c3 c4
            have lw1 : eb < w1.heap.size := lt_of_heap hb0
            unfold frD7P2
            go_wp2_with fail
            exact HQ _ (.agg #[.int .i64 1, .string u, .string t, .string r, .string v]) _ (by simp only [frD7P2, upd1, Nat.reduceEqDiff, reduceIte]) trivial rfl hC
          · have HQ := fun (a' : Act) (va : Value) (w' : World) (h1 : a' = frD7P2 sb eb zb p6 u t r v cs g1 (upd1 gs 63 va)) h2 (h3 : laysD7P2 sb u t r v fb q0 u0 g0 p0 b0 xv 5 va w') h4 => hQ.out a' w' ⟨va, h1, h2, h3, h4⟩
            have r3 : gs 61 = .pointer (some ⟨fb, 0, none⟩) := hR 3 (hdeps ⟨3, .data⟩ (by simp) rfl)
            have r4 : gs 62 = .agg #[.int .i64 1, .string u, .string t, .string r, .string v] := hR 4 (hdeps ⟨4, .data⟩ (by simp) rfl)
            have hbf := hC.before hLi
            obtain ⟨F2, hs2, hs3⟩ := hC.stepF HS4.out
            have hgl := ((G4.out.step hs2).sub (G := fun i => V i ∨ R i) (fun i h => hs3 i (HS4.out.subVR i h)))
            have HG := Lib.hid hgl
            have HBF := Lib.hid hbf
            clear hbf hgl hs2 hs3
            unfold frD7P2
            go_wp2_with fail
            refine (TL2.out w1 HBF.out.1 HBF.out.2 HG.out).mono ?_
            rintro _ w5 ⟨rfl, hts⟩
            go_wp2_with fail
            exact HQ _ (.tuple #[.agg #[.int .i64 q0, .string u0, .int .i64 g0, .string p0, .string b0], xv]) _ (by simp only [frD7P2, upd1, r3, r4, Nat.reduceEqDiff, reduceIte]) trivial rfl (hC.call hLi hts)
          · have HQ := fun (a' : Act) (va : Value) (w' : World) (h1 : a' = frD7P2 sb eb zb p6 u t r v cs g1 (upd1 gs 57 va)) h2 (h3 : laysD7P2 sb u t r v fb q0 u0 g0 p0 b0 xv 6 va w') h4 => hQ.out a' w' ⟨va, h1, h2, h3, h4⟩
            have r5 : gs 63 = .tuple #[.agg #[.int .i64 q0, .string u0, .int .i64 g0, .string p0, .string b0], xv] := hR 5 (hdeps ⟨5, .data⟩ (by simp) rfl)
            unfold frD7P2
            go_wp2_with fail
            exact HQ _ (.tuple #[.agg #[.int .i64 q0, .string u0, .int .i64 g0, .string p0, .string b0], xv]) _ (by simp only [frD7P2, upd1, r5, Nat.reduceEqDiff, reduceIte]) trivial rfl hC
          · have HQ := fun (a' : Act) (va : Value) (w' : World) (h1 : a' = frD7P2 sb eb zb p6 u t r v cs g1 (upd1 gs 64 va)) h2 (h3 : laysD7P2 sb u t r v fb q0 u0 g0 p0 b0 xv 7 va w') h4 => hQ.out a' w' ⟨va, h1, h2, h3, h4⟩
            have r6 : gs 57 = .tuple #[.agg #[.int .i64 q0, .string u0, .int .i64 g0, .string p0, .string b0], xv] := hR 6 (hdeps ⟨6, .data⟩ (by simp) rfl)
            unfold frD7P2
            go_wp2_with fail
            exact HQ _ (.agg #[.int .i64 q0, .string u0, .int .i64 g0, .string p0, .string b0]) _ (by simp only [frD7P2, upd1, r6, Nat.reduceEqDiff, reduceIte]) trivial rfl hC
          · have HQ := fun (a' : Act) (va : Value) (w' : World) (h1 : a' = frD7P2 sb eb zb p6 u t r v cs g1 (upd1 gs 65 va)) h2 (h3 : laysD7P2 sb u t r v fb q0 u0 g0 p0 b0 xv 8 va w') h4 => hQ.out a' w' ⟨va, h1, h2, h3, h4⟩
            have r6 : gs 57 = .tuple #[.agg #[.int .i64 q0, .string u0, .int .i64 g0, .string p0, .string b0], xv] := hR 6 (hdeps ⟨6, .data⟩ (by simp) rfl)
            unfold frD7P2
            go_wp2_with fail
            exact HQ _ (xv) _ (by simp only [frD7P2, upd1, r6, Nat.reduceEqDiff, reduceIte]) trivial rfl hC
          · have HQ := fun (a' : Act) (va : Value) (w' : World) (h1 : a' = frD7P2 sb eb zb p6 u t r v cs g1 (upd1 gs 9 va)) h2 (h3 : laysD7P2 sb u t r v fb q0 u0 g0 p0 b0 xv 9 va w') h4 => hQ.out a' w' ⟨va, h1, h2, h3, h4⟩
            unfold frD7P2
            go_wp2_with fail
            exact HQ _ (.pointer (some ⟨w1.heap.size, 0, none⟩)) _ (by simp only [frD7P2, upd1, Nat.reduceEqDiff, reduceIte]) trivial ⟨_, rfl⟩ (hC.made hLi)
          · have HQ := fun (a' : Act) (va : Value) (w' : World) (h1 : a' = frD7P2 sb eb zb p6 u t r v cs g1 (upd1 gs 1010 va)) h2 (h3 : laysD7P2 sb u t r v fb q0 u0 g0 p0 b0 xv 10 va w') h4 => hQ.out a' w' ⟨va, h1, h2, h3, h4⟩
            have r7 : gs 64 = .agg #[.int .i64 q0, .string u0, .int .i64 g0, .string p0, .string b0] := hR 7 (hdeps ⟨7, .data⟩ (by simp) rfl)
            have r9 := hR 9 (hdeps ⟨9, .data⟩ (by simp) rfl)
            have HC := Lib.hid hC
            obtain ⟨p, hp⟩ := r9
            change gs 9 = _ at hp
            have l9 : L 9 = true := hdeps ⟨9, .data⟩ (by simp) rfl
            obtain ⟨_, _, _, _, h4⟩ := hC
            obtain ⟨p', hp', hpl, hpb, _, _⟩ := h4 l9
            rw [hp] at hp'
            injection hp' with hp'
            injection hp' with hp'
            injection hp' with hp'
            subst hp'
            rw [show L 10 = false from hLi] at hpb
            have hpb : w1.heap[p]? = some (.cells #[.int .i64 0, .string ⟨#[]⟩, .int .i64 0, .string ⟨#[]⟩, .string ⟨#[]⟩] 55 (0, 0)) := hpb
            have lw1 := lt_of_heap hpb
            have ff := free_of_heap hpb
            have HH := Lib.hid (setRec5 hpb (.int .i64 q0) (.string u0) (.int .i64 g0) (.string p0) (.string b0))
            obtain ⟨z0, z1, z2, z3, z4⟩ := rec_cells (r := ⟨0, ⟨#[]⟩, 0, ⟨#[]⟩, ⟨#[]⟩⟩) hpb
            dsimp only at z0 z1 z2 z3 z4
            clear hpb h4
            unfold frD7P2
            go_wp2_with fail
            exact HQ _ undef _ (by simp only [frD7P2, upd1, r7, hp, Nat.reduceEqDiff, reduceIte]) trivial trivial (HC.out.put l9 hp HH.out.1 HH.out.2)
          · have HQ := fun (a' : Act) (va : Value) (w' : World) (h1 : a' = frD7P2 sb eb zb p6 u t r v cs g1 (upd1 gs 7 va)) h2 (h3 : laysD7P2 sb u t r v fb q0 u0 g0 p0 b0 xv 11 va w') h4 => hQ.out a' w' ⟨va, h1, h2, h3, h4⟩
            have r8 : gs 65 = xv := hR 8 (hdeps ⟨8, .data⟩ (by simp) rfl)
            unfold frD7P2
            go_wp2_with fail
            exact HQ _ (xv) _ (by simp only [frD7P2, upd1, r8, Nat.reduceEqDiff, reduceIte]) trivial rfl hC
        intro L7 g7 w8 hall hR hC
        obtain ⟨R', h1, ⟨h2, h2'⟩, h3, h4⟩ := hC
        rw [hall 5 (by decide), if_pos rfl] at h1
        obtain ⟨p9, hp9, hpl, hpb, hnV, hnR⟩ := h4 (hall 9 (by decide))
        rw [hall 10 (by decide), if_pos rfl] at hpb
        have s7 : g7 7 = xv := hR 11 (by decide)
        have V8 := Lib.hid h1.1
        have F8 := Lib.hid h1.2
        have ST8 := Lib.hid h2
        have NR8 := Lib.hid h2'
        have HP9 := Lib.hid hpb
        have ZL := Lib.hid (lt_of_heap Z3.out)
        have PL9 := Lib.hid hpl
        have hzk := h2.keep (lt_of_heap Z3.out) (by rintro (h | h); exact ZF.out (HS4.out.subV _ h); exact ZF.out (HS4.out.subR _ h))
        have hek := h2.keep (lt_of_heap E3.out) (by rintro (h | h); exact EF.out (HS4.out.subV _ h); exact EF.out (HS4.out.subR _ h))
        have Z8 := Lib.hid (hzk.1.trans Z3.out)
        have E8 := Lib.hid (hek.1.trans E3.out)
        have hbs := h2.keep HS4.out.cells.2.2 (by rintro (h | h); exact HS4.out.sb_.2.1 h; exact HS4.out.sb_.2.2 h)
        have T8 := Lib.hid ((HS4.out.tab.same hbs.1 (fun b hb => (h2.keep (HS4.out.lt _ (HS4.out.tm_ b hb).1) (by rintro (h | h); exact (HS4.out.tm_ b hb).2.1 h; exact (HS4.out.tm_ b hb).2.2 h)).1)).mono (by omega : n ≤ n + 2))
        clear h1 h2 h2' h3 h4 hpl hpb hnV hnR hall hR hzk hek hbs E3 Z3
        unfold frD7P2
        rw [hp9, s7]
        clear hp9 s7
        obtain ⟨y0, y1, y2, y3, y4⟩ := rec_cells (r := ⟨0, ⟨#[]⟩, 0, ⟨#[]⟩, ⟨#[]⟩⟩) Z8.out
        dsimp only at y0 y1 y2 y3 y4
        have lz := lt_of_heap Z8.out
        have fz := free_of_heap Z8.out
        by_cases hx0 : tellX S.has ⟨1, u, t, r, v⟩ = 0
        · obtain rfl : Value.nilIface = xv := by rw [← HXV.out, if_pos hx0]
          have hright := (tellX_right hx0).1
          have AP8 := fun W h => AP.out W S.T (n + 2) (by omega) h
          rw [hright, if_pos rfl, show applyT okV ⟨1, u, t, r, v⟩ S.T = stepT ⟨1, u, t, r, v⟩ S.T by unfold applyT; rw [if_pos hright]] at AP8
          have HX0 := Lib.hid hx0
          clear hx0 hright AP TL2
          unfold evV at AP8
          dsimp only at AP8
          have AP8 := Lib.hid AP8
          obtain ⟨c0, c1, c2, c3, c4⟩ := ev5 (e := ⟨1, u, t, r, v⟩) E8.out
          dsimp only at c0 c1 c2 c3 c4
          have le := lt_of_heap E8.out
          go_wp2_with fail
          refine wp_region_tail 4 (by kernel_rfl) (by kernel_rfl) ?_
          simp only [List.take_succ_cons, List.take_zero, List.drop_succ_cons, List.drop_zero]
          repeat (go_big_quiet_step (fail))
          refine wpQuiet_nil ?_
          rintro _ ⟨x, rfl⟩
          have HX8 := Lib.hid (ext_trans (ext_refl w8) ⟨x, rfl⟩)
          generalize ext w8 x = wx at HX8 ⊢
          clear c0 c1 c2 c3 c4 le y0 y1 y2 y3 y4 lz fz
          have AP8 := AP8.out wx (T8.out.ext HX8.out)
          go_wp2_with fail
          refine AP8.mono ?_
          rintro _ w10 ⟨rfl, mb', t1, t2, t3, kk⟩
          have hkx := ((kept2.refl w8 sb tm).ext HX8.out).trans kk (fun b hb => .inl hb)
          have htl : ∀ b, tm = some b → b < W2.heap.size := fun b hb => HS4.out.lt _ (HS4.out.tm_ b hb).1
          have hsl := HS4.out.cells.2.2
          have HP10 := Lib.hid ((hkx.block p9 (lt_of_heap HP9.out) (fun e => by have := PL9.out; omega) (fun e => by have := htl p9 e.symm; have := PL9.out; omega)).trans HP9.out)
          have Z10 := Lib.hid ((hkx.block zb (lt_of_heap Z8.out) (fun e => ZF.out (e ▸ HS4.out.sb_.1)) (fun e => ZF.out (HS4.out.tm_ zb e.symm).1)).trans Z8.out)
          have TLD := Lib.hid (HS4.out.told ST8.out NR8.out V8.out F8.out t1 t2 (fun e b hb => Nat.le_trans (ext_iff.1 HX8.out).size (t3 e b hb)) hkx)
          clear t1 t2 t3 kk hkx htl hsl AP8 T8 HX8 HP9 Z8 E8
          obtain ⟨z0, z1, z2, z3, z4⟩ := rec_cells (r := ⟨q0, u0, g0, p0, b0⟩) HP10.out
          dsimp only at z0 z1 z2 z3 z4
          have lp := lt_of_heap HP10.out
          obtain ⟨y0, y1, y2, y3, y4⟩ := rec_cells (r := ⟨0, ⟨#[]⟩, 0, ⟨#[]⟩, ⟨#[]⟩⟩) Z10.out
          dsimp only at y0 y1 y2 y3 y4
          have lz := lt_of_heap Z10.out
          have fz := free_of_heap Z10.out
          have SR := Lib.hid (setRec5 Z10.out (.int .i64 q0) (.string u0) (.int .i64 g0) (.string p0) (.string b0))
          go_wp2_with fail
          generalize (((((w10.setCell ⟨zb, 0, none⟩ (.int .i64 q0)).setCell ⟨zb, 1, none⟩ (.string u0)).setCell ⟨zb, 2, none⟩ (.int .i64 g0)).setCell ⟨zb, 3, none⟩ (.string p0)).setCell ⟨zb, 4, none⟩ (.string b0)) = w9 at SR ⊢
          obtain ⟨SR1, SR2⟩ := SR.out
          have hX : X = 0 := HXT.out.trans HX0.out
          obtain ⟨F', hsr, hst⟩ := TLD.out
          rw [← HM2.out, ← HH2.out, ← HL2.out, if_pos HX0.out, if_pos HX0.out, if_pos HX0.out] at hsr
          have hzF : ¬ F' zb := fun h => (hst.sub _ h).elim (fun h => ZF.out h) (fun h => by have := ZL.out; omega)
          have hRR := HRR.out
          rw [if_pos HX0.out] at hRR
          exact ret_cells rfl rfl SR1 Tryz.underlying55 rfl (by kernel_rfl) rfl rfl (HP.out _ _ ⟨by rw [hX, if_pos rfl, if_pos rfl, hRR]; rfl, F', by rw [doS_yes (by rw [HX.out]; exact hX)]; exact hsr.same (fun i hi => SR2.block i (hsr.lt i hi) (fun e => by injection e with e; subst e; exact hzF hi)) SR2.size, (KS2.out.trans hst).put SR2 (.inr (by omega))⟩)
        · obtain rfl : errV (tellX S.has ⟨1, u, t, r, v⟩) = xv := by rw [← HXV.out, if_neg hx0]
          have hX : X ≠ 0 := by rw [HXT.out]; exact hx0
          have SR := Lib.hid (setRec5 Z8.out (.int .i64 0) (.string ⟨#[]⟩) (.int .i64 0) (.string ⟨#[]⟩) (.string ⟨#[]⟩))
          have HM3 := Lib.hid (HM2.out.symm.trans (if_neg hx0))
          have HH3 := Lib.hid (HH2.out.symm.trans (if_neg hx0))
          have HL3 := Lib.hid (HL2.out.symm.trans (if_neg hx0))
          have HXT := Lib.hid HXT.out
          clear hx0 AP TL2
          generalize tellX S.has ⟨1, u, t, r, v⟩ = x8 at HXT ⊢
          have HNE := Lib.hid hX
          clear hX
          go_wp2_with fail
          generalize (((((w8.setCell ⟨zb, 0, none⟩ (.int .i64 0)).setCell ⟨zb, 1, none⟩ (.string ⟨#[]⟩)).setCell ⟨zb, 2, none⟩ (.int .i64 0)).setCell ⟨zb, 3, none⟩ (.string ⟨#[]⟩)).setCell ⟨zb, 4, none⟩ (.string ⟨#[]⟩)) = w9 at SR ⊢
          obtain ⟨SR1, SR2⟩ := SR.out
          have V9 := V8.out
          have F9 := F8.out
          rw [HM3.out, HH3.out] at V9
          rw [HL3.out] at F9
          obtain ⟨F', hsr, hst⟩ := HS4.out.refused ST8.out NR8.out V9 F9
          have hzF : ¬ F' zb := fun h => (hst.sub _ h).elim (fun h => ZF.out h) (fun h => by have := ZL.out; omega)
          exact ret_cells rfl rfl SR1 Tryz.underlying55 rfl (by kernel_rfl) rfl rfl (HP.out _ _ ⟨by rw [if_neg HNE.out, if_neg HNE.out, HXT.out]; rfl, F', by rw [doS_no (by rw [HX.out]; exact HNE.out)]; exact hsr.same (fun i hi => SR2.block i (hsr.lt i hi) (fun e => by injection e with e; subst e; exact hzF hi)) SR2.size, (KS2.out.trans hst).put SR2 (.inr (by omega))⟩)
  · have k1' : (k == 1) = false := by simp [k1]
    by_cases k2 : k = 2
    · subst k2
      cases f with
      | false =>
        obtain rfl : errV 7 = ev0 := HEV.out
        go_wp2_with fail
        generalize (((((w2.setCell ⟨zb, 0, none⟩ (.int .i64 0)).setCell ⟨zb, 1, none⟩ (.string ⟨#[]⟩)).setCell ⟨zb, 2, none⟩ (.int .i64 0)).setCell ⟨zb, 3, none⟩ (.string ⟨#[]⟩)).setCell ⟨zb, 4, none⟩ (.string ⟨#[]⟩)) = w9 at SR ⊢
        obtain ⟨SR1, SR2⟩ := SR.out
        have hX : X = 7 := HDX.out.trans (by rw [if_neg (fun h => absurd h.1 (by decide)), if_pos ⟨by trivial, fun h => by cases h.1⟩])
        have hne : X ≠ 0 := by rw [hX]; decide
        have SRC : srcIn w9 V F sb vb n sec S := srcIn.same ⟨fb, R, tm, HS4.out⟩ (fun i hi => SR2.block i (HS4.out.lt i hi) (fun e => by injection e with e; subst e; exact ZF.out hi)) SR2.size
        exact ret_cells rfl rfl SR1 Tryz.underlying55 rfl (by kernel_rfl) rfl rfl (HP.out _ _ ⟨by rw [if_neg hne, if_neg hne, hX]; rfl, F, by rw [doS_no (by rw [HX.out]; exact hne)]; exact SRC.mono (by omega), KS2.out.put SR2 (.inr (by omega))⟩)
      | true =>
        obtain rfl : Value.nilIface = ev0 := HEV.out
        cases hq : (cs.toList == u.toList) with
        | false =>
          go_wp2_with fail
          generalize (((((w2.setCell ⟨zb, 0, none⟩ (.int .i64 0)).setCell ⟨zb, 1, none⟩ (.string ⟨#[]⟩)).setCell ⟨zb, 2, none⟩ (.int .i64 0)).setCell ⟨zb, 3, none⟩ (.string ⟨#[]⟩)).setCell ⟨zb, 4, none⟩ (.string ⟨#[]⟩)) = w9 at SR ⊢
          obtain ⟨SR1, SR2⟩ := SR.out
          have hX : X = 7 := HDX.out.trans (by rw [if_neg (fun h => absurd h.1 (by decide)), if_pos ⟨by trivial, fun h => TXT.out.2 hq h.2⟩])
          have hne : X ≠ 0 := by rw [hX]; decide
          have SRC : srcIn w9 V F sb vb n sec S := srcIn.same ⟨fb, R, tm, HS4.out⟩ (fun i hi => SR2.block i (HS4.out.lt i hi) (fun e => by injection e with e; subst e; exact ZF.out hi)) SR2.size
          exact ret_cells rfl rfl SR1 Tryz.underlying55 rfl (by kernel_rfl) rfl rfl (HP.out _ _ ⟨by rw [if_neg hne, if_neg hne, hX]; rfl, F, by rw [doS_no (by rw [HX.out]; exact hne)]; exact SRC.mono (by omega), KS2.out.put SR2 (.inr (by omega))⟩)
        | true =>
          go_wp2_with fail
          have HXT : Hid (X = tellX S.has ⟨2, u, t, r, v⟩) := Lib.hid (HDX.out.trans ((if_neg (fun h => absurd h.1 (by decide))).trans (if_neg (fun h => h.2 ⟨by trivial, TXT.out.1 hq⟩))))
          clear c0 c1 c2 c3 c4 d0 d1 d2 d3 y0 y1 y2 y3 y4 le lp lz fz SR HDX
          generalize hW2 : w2 = W2 at *
          refine wp_region_slots (frD7P3 sb eb zb p6 u t r v cs g1) dstD7P3 (fun k => if k = 7 then .nilIface else undef) (laysD7P3 sb u t r v fb q0 u0 g0 p0 b0 xv) (fun L g w => tellC V R fb vb n sec S.many many2 S.has has2 S.L L2 #[.int .i64 0, .string ⟨#[]⟩, .int .i64 0, .string ⟨#[]⟩, .string ⟨#[]⟩] #[.int .i64 q0, .string u0, .int .i64 g0, .string p0, .string b0] W2 (L 5) (L 9) (L 10) (g 9) w) (fun w w' => True) (by kernel_rfl) (by kernel_rfl) rfl ?_ (by kernel_rfl) (tellC.start HS4.out.vault HS4.out.feed) ?_ ?_
          · exact fun _ _ _ _ _ h => h
          · refine ⟨?_, ?_, ?_, ?_, ?_, ?_, ?_, ?_, ?_, ?_, ?_, ?_, trivial⟩
            all_goals (intro L gs w1 hLi hdeps hR hC; refine ends_of fun Q hQ => ?_)
            · have HQ := fun (a' : Act) (va : Value) (w' : World) (h1 : a' = frD7P3 sb eb zb p6 u t r v cs g1 (upd1 gs 58 va)) h2 (h3 : laysD7P3 sb u t r v fb q0 u0 g0 p0 b0 xv 0 va w') h4 => hQ.out a' w' ⟨va, h1, h2, h3, h4⟩
              unfold frD7P3
              go_wp2_with fail
              exact HQ _ (.pointer (some ⟨sb, 0, none⟩)) _ (by simp only [frD7P3, upd1, Nat.reduceEqDiff, reduceIte]) trivial rfl hC
            · have HQ := fun (a' : Act) (va : Value) (w' : World) (h1 : a' = frD7P3 sb eb zb p6 u t r v cs g1 (upd1 gs 59 va)) h2 (h3 : laysD7P3 sb u t r v fb q0 u0 g0 p0 b0 xv 1 va w') h4 => hQ.out a' w' ⟨va, h1, h2, h3, h4⟩
              have r0 : gs 58 = .pointer (some ⟨sb, 0, none⟩) := hR 0 (hdeps ⟨0, .data⟩ (by simp) rfl)
              unfold frD7P3
              go_wp2_with fail
              exact HQ _ (.pointer (some ⟨sb, 0, none⟩)) _ (by simp only [frD7P3, upd1, r0, Nat.reduceEqDiff, reduceIte]) trivial rfl hC
            · have HQ := fun (a' : Act) (va : Value) (w' : World) (h1 : a' = frD7P3 sb eb zb p6 u t r v cs g1 (upd1 gs 60 va)) h2 (h3 : laysD7P3 sb u t r v fb q0 u0 g0 p0 b0 xv 2 va w') h4 => hQ.out a' w' ⟨va, h1, h2, h3, h4⟩
              have r1 : gs 59 = .pointer (some ⟨sb, 0, none⟩) := hR 1 (hdeps ⟨1, .data⟩ (by simp) rfl)
              unfold frD7P3
              go_wp2_with fail
              exact HQ _ (.pointer (some ⟨sb, 1, none⟩)) _ (by simp only [frD7P3, upd1, r1, Nat.reduceEqDiff, reduceIte]) trivial rfl hC
            · have HQ := fun (a' : Act) (va : Value) (w' : World) (h1 : a' = frD7P3 sb eb zb p6 u t r v cs g1 (upd1 gs 61 va)) h2 (h3 : laysD7P3 sb u t r v fb q0 u0 g0 p0 b0 xv 3 va w') h4 => hQ.out a' w' ⟨va, h1, h2, h3, h4⟩
              have r2 : gs 60 = .pointer (some ⟨sb, 1, none⟩) := hR 2 (hdeps ⟨2, .data⟩ (by simp) rfl)
              have hb0 := (hC.keep HS4.out.cells.2.2 (by rintro (h | h); exact HS4.out.sb_.2.1 h; exact HS4.out.sb_.2.2 h)).trans HS4.out.tab.blk
              have c1 : w1.cell? ⟨sb, 1, none⟩ = some (.pointer (some ⟨fb, 0, none⟩)) := by rw [cell_in, hb0]; rfl
              have lw1 : sb < w1.heap.size := lt_of_heap hb0
              unfold frD7P3
              go_wp2_with fail
              exact HQ _ (.pointer (some ⟨fb, 0, none⟩)) _ (by simp only [frD7P3, upd1, r2, Nat.reduceEqDiff, reduceIte]) trivial rfl hC
            · have HQ := fun (a' : Act) (va : Value) (w' : World) (h1 : a' = frD7P3 sb eb zb p6 u t r v cs g1 (upd1 gs 62 va)) h2 (h3 : laysD7P3 sb u t r v fb q0 u0 g0 p0 b0 xv 4 va w') h4 => hQ.out a' w' ⟨va, h1, h2, h3, h4⟩
              have hb0 := (hC.keep (lt_of_heap E3.out) (by rintro (h | h); exact EF.out (HS4.out.subV _ h); exact EF.out (HS4.out.subR _ h))).trans E3.out
              obtain ⟨c0, c1, c2, c3, c4⟩ := ev5 (e := ⟨2, u, t, r, v⟩) hb0
              dsimp only at c0 c1 c2 c3 c4
              have lw1 : eb < w1.heap.size := lt_of_heap hb0
              unfold frD7P3
              go_wp2_with fail
              exact HQ _ (.agg #[.int .i64 2, .string u, .string t, .string r, .string v]) _ (by simp only [frD7P3, upd1, Nat.reduceEqDiff, reduceIte]) trivial rfl hC
            · have HQ := fun (a' : Act) (va : Value) (w' : World) (h1 : a' = frD7P3 sb eb zb p6 u t r v cs g1 (upd1 gs 63 va)) h2 (h3 : laysD7P3 sb u t r v fb q0 u0 g0 p0 b0 xv 5 va w') h4 => hQ.out a' w' ⟨va, h1, h2, h3, h4⟩
              have r3 : gs 61 = .pointer (some ⟨fb, 0, none⟩) := hR 3 (hdeps ⟨3, .data⟩ (by simp) rfl)
              have r4 : gs 62 = .agg #[.int .i64 2, .string u, .string t, .string r, .string v] := hR 4 (hdeps ⟨4, .data⟩ (by simp) rfl)
              have hbf := hC.before hLi
              obtain ⟨F2, hs2, hs3⟩ := hC.stepF HS4.out
              have hgl := ((G4.out.step hs2).sub (G := fun i => V i ∨ R i) (fun i h => hs3 i (HS4.out.subVR i h)))
              have HG := Lib.hid hgl
              have HBF := Lib.hid hbf
              clear hbf hgl hs2 hs3
              unfold frD7P3
              go_wp2_with fail
              refine (TL2.out w1 HBF.out.1 HBF.out.2 HG.out).mono ?_
              rintro _ w5 ⟨rfl, hts⟩
              go_wp2_with fail
              exact HQ _ (.tuple #[.agg #[.int .i64 q0, .string u0, .int .i64 g0, .string p0, .string b0], xv]) _ (by simp only [frD7P3, upd1, r3, r4, Nat.reduceEqDiff, reduceIte]) trivial rfl (hC.call hLi hts)
            · have HQ := fun (a' : Act) (va : Value) (w' : World) (h1 : a' = frD7P3 sb eb zb p6 u t r v cs g1 (upd1 gs 57 va)) h2 (h3 : laysD7P3 sb u t r v fb q0 u0 g0 p0 b0 xv 6 va w') h4 => hQ.out a' w' ⟨va, h1, h2, h3, h4⟩
              have r5 : gs 63 = .tuple #[.agg #[.int .i64 q0, .string u0, .int .i64 g0, .string p0, .string b0], xv] := hR 5 (hdeps ⟨5, .data⟩ (by simp) rfl)
              unfold frD7P3
              go_wp2_with fail
              exact HQ _ (.tuple #[.agg #[.int .i64 q0, .string u0, .int .i64 g0, .string p0, .string b0], xv]) _ (by simp only [frD7P3, upd1, r5, Nat.reduceEqDiff, reduceIte]) trivial rfl hC
            · have HQ := fun (a' : Act) (va : Value) (w' : World) (h1 : a' = frD7P3 sb eb zb p6 u t r v cs g1 (upd1 gs 64 va)) h2 (h3 : laysD7P3 sb u t r v fb q0 u0 g0 p0 b0 xv 7 va w') h4 => hQ.out a' w' ⟨va, h1, h2, h3, h4⟩
              have r6 : gs 57 = .tuple #[.agg #[.int .i64 q0, .string u0, .int .i64 g0, .string p0, .string b0], xv] := hR 6 (hdeps ⟨6, .data⟩ (by simp) rfl)
              unfold frD7P3
              go_wp2_with fail
              exact HQ _ (.agg #[.int .i64 q0, .string u0, .int .i64 g0, .string p0, .string b0]) _ (by simp only [frD7P3, upd1, r6, Nat.reduceEqDiff, reduceIte]) trivial rfl hC
            · have HQ := fun (a' : Act) (va : Value) (w' : World) (h1 : a' = frD7P3 sb eb zb p6 u t r v cs g1 (upd1 gs 65 va)) h2 (h3 : laysD7P3 sb u t r v fb q0 u0 g0 p0 b0 xv 8 va w') h4 => hQ.out a' w' ⟨va, h1, h2, h3, h4⟩
              have r6 : gs 57 = .tuple #[.agg #[.int .i64 q0, .string u0, .int .i64 g0, .string p0, .string b0], xv] := hR 6 (hdeps ⟨6, .data⟩ (by simp) rfl)
              unfold frD7P3
              go_wp2_with fail
              exact HQ _ (xv) _ (by simp only [frD7P3, upd1, r6, Nat.reduceEqDiff, reduceIte]) trivial rfl hC
            · have HQ := fun (a' : Act) (va : Value) (w' : World) (h1 : a' = frD7P3 sb eb zb p6 u t r v cs g1 (upd1 gs 9 va)) h2 (h3 : laysD7P3 sb u t r v fb q0 u0 g0 p0 b0 xv 9 va w') h4 => hQ.out a' w' ⟨va, h1, h2, h3, h4⟩
              unfold frD7P3
              go_wp2_with fail
              exact HQ _ (.pointer (some ⟨w1.heap.size, 0, none⟩)) _ (by simp only [frD7P3, upd1, Nat.reduceEqDiff, reduceIte]) trivial ⟨_, rfl⟩ (hC.made hLi)
            · have HQ := fun (a' : Act) (va : Value) (w' : World) (h1 : a' = frD7P3 sb eb zb p6 u t r v cs g1 (upd1 gs 1010 va)) h2 (h3 : laysD7P3 sb u t r v fb q0 u0 g0 p0 b0 xv 10 va w') h4 => hQ.out a' w' ⟨va, h1, h2, h3, h4⟩
              have r7 : gs 64 = .agg #[.int .i64 q0, .string u0, .int .i64 g0, .string p0, .string b0] := hR 7 (hdeps ⟨7, .data⟩ (by simp) rfl)
              have r9 := hR 9 (hdeps ⟨9, .data⟩ (by simp) rfl)
              have HC := Lib.hid hC
              obtain ⟨p, hp⟩ := r9
              change gs 9 = _ at hp
              have l9 : L 9 = true := hdeps ⟨9, .data⟩ (by simp) rfl
              obtain ⟨_, _, _, _, h4⟩ := hC
              obtain ⟨p', hp', hpl, hpb, _, _⟩ := h4 l9
              rw [hp] at hp'
              injection hp' with hp'
              injection hp' with hp'
              injection hp' with hp'
              subst hp'
              rw [show L 10 = false from hLi] at hpb
              have hpb : w1.heap[p]? = some (.cells #[.int .i64 0, .string ⟨#[]⟩, .int .i64 0, .string ⟨#[]⟩, .string ⟨#[]⟩] 55 (0, 0)) := hpb
              have lw1 := lt_of_heap hpb
              have ff := free_of_heap hpb
              have HH := Lib.hid (setRec5 hpb (.int .i64 q0) (.string u0) (.int .i64 g0) (.string p0) (.string b0))
              obtain ⟨z0, z1, z2, z3, z4⟩ := rec_cells (r := ⟨0, ⟨#[]⟩, 0, ⟨#[]⟩, ⟨#[]⟩⟩) hpb
              dsimp only at z0 z1 z2 z3 z4
              clear hpb h4
              unfold frD7P3
              go_wp2_with fail
              exact HQ _ undef _ (by simp only [frD7P3, upd1, r7, hp, Nat.reduceEqDiff, reduceIte]) trivial trivial (HC.out.put l9 hp HH.out.1 HH.out.2)
            · have HQ := fun (a' : Act) (va : Value) (w' : World) (h1 : a' = frD7P3 sb eb zb p6 u t r v cs g1 (upd1 gs 7 va)) h2 (h3 : laysD7P3 sb u t r v fb q0 u0 g0 p0 b0 xv 11 va w') h4 => hQ.out a' w' ⟨va, h1, h2, h3, h4⟩
              have r8 : gs 65 = xv := hR 8 (hdeps ⟨8, .data⟩ (by simp) rfl)
              unfold frD7P3
              go_wp2_with fail
              exact HQ _ (xv) _ (by simp only [frD7P3, upd1, r8, Nat.reduceEqDiff, reduceIte]) trivial rfl hC
          intro L7 g7 w8 hall hR hC
          obtain ⟨R', h1, ⟨h2, h2'⟩, h3, h4⟩ := hC
          rw [hall 5 (by decide), if_pos rfl] at h1
          obtain ⟨p9, hp9, hpl, hpb, hnV, hnR⟩ := h4 (hall 9 (by decide))
          rw [hall 10 (by decide), if_pos rfl] at hpb
          have s7 : g7 7 = xv := hR 11 (by decide)
          have V8 := Lib.hid h1.1
          have F8 := Lib.hid h1.2
          have ST8 := Lib.hid h2
          have NR8 := Lib.hid h2'
          have HP9 := Lib.hid hpb
          have ZL := Lib.hid (lt_of_heap Z3.out)
          have PL9 := Lib.hid hpl
          have hzk := h2.keep (lt_of_heap Z3.out) (by rintro (h | h); exact ZF.out (HS4.out.subV _ h); exact ZF.out (HS4.out.subR _ h))
          have hek := h2.keep (lt_of_heap E3.out) (by rintro (h | h); exact EF.out (HS4.out.subV _ h); exact EF.out (HS4.out.subR _ h))
          have Z8 := Lib.hid (hzk.1.trans Z3.out)
          have E8 := Lib.hid (hek.1.trans E3.out)
          have hbs := h2.keep HS4.out.cells.2.2 (by rintro (h | h); exact HS4.out.sb_.2.1 h; exact HS4.out.sb_.2.2 h)
          have T8 := Lib.hid ((HS4.out.tab.same hbs.1 (fun b hb => (h2.keep (HS4.out.lt _ (HS4.out.tm_ b hb).1) (by rintro (h | h); exact (HS4.out.tm_ b hb).2.1 h; exact (HS4.out.tm_ b hb).2.2 h)).1)).mono (by omega : n ≤ n + 2))
          clear h1 h2 h2' h3 h4 hpl hpb hnV hnR hall hR hzk hek hbs E3 Z3
          unfold frD7P3
          rw [hp9, s7]
          clear hp9 s7
          obtain ⟨y0, y1, y2, y3, y4⟩ := rec_cells (r := ⟨0, ⟨#[]⟩, 0, ⟨#[]⟩, ⟨#[]⟩⟩) Z8.out
          dsimp only at y0 y1 y2 y3 y4
          have lz := lt_of_heap Z8.out
          have fz := free_of_heap Z8.out
          by_cases hx0 : tellX S.has ⟨2, u, t, r, v⟩ = 0
          · obtain rfl : Value.nilIface = xv := by rw [← HXV.out, if_pos hx0]
            have hright := (tellX_right hx0).1
            have AP8 := fun W h => AP.out W S.T (n + 2) (by omega) h
            rw [hright, if_pos rfl, show applyT okV ⟨2, u, t, r, v⟩ S.T = stepT ⟨2, u, t, r, v⟩ S.T by unfold applyT; rw [if_pos hright]] at AP8
            have HX0 := Lib.hid hx0
            clear hx0 hright AP TL2
            unfold evV at AP8
            dsimp only at AP8
            have AP8 := Lib.hid AP8
            obtain ⟨c0, c1, c2, c3, c4⟩ := ev5 (e := ⟨2, u, t, r, v⟩) E8.out
            dsimp only at c0 c1 c2 c3 c4
            have le := lt_of_heap E8.out
            go_wp2_with fail
            refine wp_region_tail 4 (by kernel_rfl) (by kernel_rfl) ?_
            simp only [List.take_succ_cons, List.take_zero, List.drop_succ_cons, List.drop_zero]
            repeat (go_big_quiet_step (fail))
            refine wpQuiet_nil ?_
            rintro _ ⟨x, rfl⟩
            have HX8 := Lib.hid (ext_trans (ext_refl w8) ⟨x, rfl⟩)
            generalize ext w8 x = wx at HX8 ⊢
            clear c0 c1 c2 c3 c4 le y0 y1 y2 y3 y4 lz fz
            have AP8 := AP8.out wx (T8.out.ext HX8.out)
            go_wp2_with fail
            refine AP8.mono ?_
            rintro _ w10 ⟨rfl, mb', t1, t2, t3, kk⟩
            have hkx := ((kept2.refl w8 sb tm).ext HX8.out).trans kk (fun b hb => .inl hb)
            have htl : ∀ b, tm = some b → b < W2.heap.size := fun b hb => HS4.out.lt _ (HS4.out.tm_ b hb).1
            have hsl := HS4.out.cells.2.2
            have HP10 := Lib.hid ((hkx.block p9 (lt_of_heap HP9.out) (fun e => by have := PL9.out; omega) (fun e => by have := htl p9 e.symm; have := PL9.out; omega)).trans HP9.out)
            have Z10 := Lib.hid ((hkx.block zb (lt_of_heap Z8.out) (fun e => ZF.out (e ▸ HS4.out.sb_.1)) (fun e => ZF.out (HS4.out.tm_ zb e.symm).1)).trans Z8.out)
            have TLD := Lib.hid (HS4.out.told ST8.out NR8.out V8.out F8.out t1 t2 (fun e b hb => Nat.le_trans (ext_iff.1 HX8.out).size (t3 e b hb)) hkx)
            clear t1 t2 t3 kk hkx htl hsl AP8 T8 HX8 HP9 Z8 E8
            obtain ⟨z0, z1, z2, z3, z4⟩ := rec_cells (r := ⟨q0, u0, g0, p0, b0⟩) HP10.out
            dsimp only at z0 z1 z2 z3 z4
            have lp := lt_of_heap HP10.out
            obtain ⟨y0, y1, y2, y3, y4⟩ := rec_cells (r := ⟨0, ⟨#[]⟩, 0, ⟨#[]⟩, ⟨#[]⟩⟩) Z10.out
            dsimp only at y0 y1 y2 y3 y4
            have lz := lt_of_heap Z10.out
            have fz := free_of_heap Z10.out
            have SR := Lib.hid (setRec5 Z10.out (.int .i64 q0) (.string u0) (.int .i64 g0) (.string p0) (.string b0))
            go_wp2_with fail
            generalize (((((w10.setCell ⟨zb, 0, none⟩ (.int .i64 q0)).setCell ⟨zb, 1, none⟩ (.string u0)).setCell ⟨zb, 2, none⟩ (.int .i64 g0)).setCell ⟨zb, 3, none⟩ (.string p0)).setCell ⟨zb, 4, none⟩ (.string b0)) = w9 at SR ⊢
            obtain ⟨SR1, SR2⟩ := SR.out
            have hX : X = 0 := HXT.out.trans HX0.out
            obtain ⟨F', hsr, hst⟩ := TLD.out
            rw [← HM2.out, ← HH2.out, ← HL2.out, if_pos HX0.out, if_pos HX0.out, if_pos HX0.out] at hsr
            have hzF : ¬ F' zb := fun h => (hst.sub _ h).elim (fun h => ZF.out h) (fun h => by have := ZL.out; omega)
            have hRR := HRR.out
            rw [if_pos HX0.out] at hRR
            exact ret_cells rfl rfl SR1 Tryz.underlying55 rfl (by kernel_rfl) rfl rfl (HP.out _ _ ⟨by rw [hX, if_pos rfl, if_pos rfl, hRR]; rfl, F', by rw [doS_yes (by rw [HX.out]; exact hX)]; exact hsr.same (fun i hi => SR2.block i (hsr.lt i hi) (fun e => by injection e with e; subst e; exact hzF hi)) SR2.size, (KS2.out.trans hst).put SR2 (.inr (by omega))⟩)
          · obtain rfl : errV (tellX S.has ⟨2, u, t, r, v⟩) = xv := by rw [← HXV.out, if_neg hx0]
            have hX : X ≠ 0 := by rw [HXT.out]; exact hx0
            have SR := Lib.hid (setRec5 Z8.out (.int .i64 0) (.string ⟨#[]⟩) (.int .i64 0) (.string ⟨#[]⟩) (.string ⟨#[]⟩))
            have HM3 := Lib.hid (HM2.out.symm.trans (if_neg hx0))
            have HH3 := Lib.hid (HH2.out.symm.trans (if_neg hx0))
            have HL3 := Lib.hid (HL2.out.symm.trans (if_neg hx0))
            have HXT := Lib.hid HXT.out
            clear hx0 AP TL2
            generalize tellX S.has ⟨2, u, t, r, v⟩ = x8 at HXT ⊢
            have HNE := Lib.hid hX
            clear hX
            go_wp2_with fail
            generalize (((((w8.setCell ⟨zb, 0, none⟩ (.int .i64 0)).setCell ⟨zb, 1, none⟩ (.string ⟨#[]⟩)).setCell ⟨zb, 2, none⟩ (.int .i64 0)).setCell ⟨zb, 3, none⟩ (.string ⟨#[]⟩)).setCell ⟨zb, 4, none⟩ (.string ⟨#[]⟩)) = w9 at SR ⊢
            obtain ⟨SR1, SR2⟩ := SR.out
            have V9 := V8.out
            have F9 := F8.out
            rw [HM3.out, HH3.out] at V9
            rw [HL3.out] at F9
            obtain ⟨F', hsr, hst⟩ := HS4.out.refused ST8.out NR8.out V9 F9
            have hzF : ¬ F' zb := fun h => (hst.sub _ h).elim (fun h => ZF.out h) (fun h => by have := ZL.out; omega)
            exact ret_cells rfl rfl SR1 Tryz.underlying55 rfl (by kernel_rfl) rfl rfl (HP.out _ _ ⟨by rw [if_neg HNE.out, if_neg HNE.out, HXT.out]; rfl, F', by rw [doS_no (by rw [HX.out]; exact HNE.out)]; exact hsr.same (fun i hi => SR2.block i (hsr.lt i hi) (fun e => by injection e with e; subst e; exact hzF hi)) SR2.size, (KS2.out.trans hst).put SR2 (.inr (by omega))⟩)
    · have k2' : (k == 2) = false := by simp [k2]
      cases f with
      | false =>
        obtain rfl : errV 7 = ev0 := HEV.out
        go_wp2_with fail
        have HXT : Hid (X = tellX S.has ⟨k, u, t, r, v⟩) := Lib.hid (HDX.out.trans ((if_neg (fun h => k1 h.1)).trans (if_neg (fun h => k2 h.1))))
        clear c0 c1 c2 c3 c4 d0 d1 d2 d3 y0 y1 y2 y3 y4 le lp lz fz SR HDX
        generalize hW2 : w2 = W2 at *
        refine wp_region_slots (frD7P4 sb eb zb p6 k u t r v g1) dstD7P4 (fun k => if k = 7 then errV 7 else undef) (laysD7P4 sb k u t r v fb q0 u0 g0 p0 b0 xv) (fun L g w => tellC V R fb vb n sec S.many many2 S.has has2 S.L L2 #[.int .i64 0, .string ⟨#[]⟩, .int .i64 0, .string ⟨#[]⟩, .string ⟨#[]⟩] #[.int .i64 q0, .string u0, .int .i64 g0, .string p0, .string b0] W2 (L 5) (L 9) (L 10) (g 9) w) (fun w w' => True) (by kernel_rfl) (by kernel_rfl) rfl ?_ (by kernel_rfl) (tellC.start HS4.out.vault HS4.out.feed) ?_ ?_
        · exact fun _ _ _ _ _ h => h
        · refine ⟨?_, ?_, ?_, ?_, ?_, ?_, ?_, ?_, ?_, ?_, ?_, ?_, trivial⟩
          all_goals (intro L gs w1 hLi hdeps hR hC; refine ends_of fun Q hQ => ?_)
          · have HQ := fun (a' : Act) (va : Value) (w' : World) (h1 : a' = frD7P4 sb eb zb p6 k u t r v g1 (upd1 gs 58 va)) h2 (h3 : laysD7P4 sb k u t r v fb q0 u0 g0 p0 b0 xv 0 va w') h4 => hQ.out a' w' ⟨va, h1, h2, h3, h4⟩
            unfold frD7P4
            go_wp2_with fail
            exact HQ _ (.pointer (some ⟨sb, 0, none⟩)) _ (by simp only [frD7P4, upd1, Nat.reduceEqDiff, reduceIte]) trivial rfl hC
          · have HQ := fun (a' : Act) (va : Value) (w' : World) (h1 : a' = frD7P4 sb eb zb p6 k u t r v g1 (upd1 gs 59 va)) h2 (h3 : laysD7P4 sb k u t r v fb q0 u0 g0 p0 b0 xv 1 va w') h4 => hQ.out a' w' ⟨va, h1, h2, h3, h4⟩
            have r0 : gs 58 = .pointer (some ⟨sb, 0, none⟩) := hR 0 (hdeps ⟨0, .data⟩ (by simp) rfl)
            unfold frD7P4
            go_wp2_with fail
            exact HQ _ (.pointer (some ⟨sb, 0, none⟩)) _ (by simp only [frD7P4, upd1, r0, Nat.reduceEqDiff, reduceIte]) trivial rfl hC
          · have HQ := fun (a' : Act) (va : Value) (w' : World) (h1 : a' = frD7P4 sb eb zb p6 k u t r v g1 (upd1 gs 60 va)) h2 (h3 : laysD7P4 sb k u t r v fb q0 u0 g0 p0 b0 xv 2 va w') h4 => hQ.out a' w' ⟨va, h1, h2, h3, h4⟩
            have r1 : gs 59 = .pointer (some ⟨sb, 0, none⟩) := hR 1 (hdeps ⟨1, .data⟩ (by simp) rfl)
            unfold frD7P4
            go_wp2_with fail
            exact HQ _ (.pointer (some ⟨sb, 1, none⟩)) _ (by simp only [frD7P4, upd1, r1, Nat.reduceEqDiff, reduceIte]) trivial rfl hC
          · have HQ := fun (a' : Act) (va : Value) (w' : World) (h1 : a' = frD7P4 sb eb zb p6 k u t r v g1 (upd1 gs 61 va)) h2 (h3 : laysD7P4 sb k u t r v fb q0 u0 g0 p0 b0 xv 3 va w') h4 => hQ.out a' w' ⟨va, h1, h2, h3, h4⟩
            have r2 : gs 60 = .pointer (some ⟨sb, 1, none⟩) := hR 2 (hdeps ⟨2, .data⟩ (by simp) rfl)
            have hb0 := (hC.keep HS4.out.cells.2.2 (by rintro (h | h); exact HS4.out.sb_.2.1 h; exact HS4.out.sb_.2.2 h)).trans HS4.out.tab.blk
            have c1 : w1.cell? ⟨sb, 1, none⟩ = some (.pointer (some ⟨fb, 0, none⟩)) := by rw [cell_in, hb0]; rfl
            have lw1 : sb < w1.heap.size := lt_of_heap hb0
            unfold frD7P4
            go_wp2_with fail
            exact HQ _ (.pointer (some ⟨fb, 0, none⟩)) _ (by simp only [frD7P4, upd1, r2, Nat.reduceEqDiff, reduceIte]) trivial rfl hC
          · have HQ := fun (a' : Act) (va : Value) (w' : World) (h1 : a' = frD7P4 sb eb zb p6 k u t r v g1 (upd1 gs 62 va)) h2 (h3 : laysD7P4 sb k u t r v fb q0 u0 g0 p0 b0 xv 4 va w') h4 => hQ.out a' w' ⟨va, h1, h2, h3, h4⟩
            have hb0 := (hC.keep (lt_of_heap E3.out) (by rintro (h | h); exact EF.out (HS4.out.subV _ h); exact EF.out (HS4.out.subR _ h))).trans E3.out
            obtain ⟨c0, c1, c2, c3, c4⟩ := ev5 (e := ⟨k, u, t, r, v⟩) hb0
            dsimp only at c0 c1 c2 c3 c4
            have lw1 : eb < w1.heap.size := lt_of_heap hb0
            unfold frD7P4
            go_wp2_with fail
            exact HQ _ (.agg #[.int .i64 k, .string u, .string t, .string r, .string v]) _ (by simp only [frD7P4, upd1, Nat.reduceEqDiff, reduceIte]) trivial rfl hC
          · have HQ := fun (a' : Act) (va : Value) (w' : World) (h1 : a' = frD7P4 sb eb zb p6 k u t r v g1 (upd1 gs 63 va)) h2 (h3 : laysD7P4 sb k u t r v fb q0 u0 g0 p0 b0 xv 5 va w') h4 => hQ.out a' w' ⟨va, h1, h2, h3, h4⟩
            have r3 : gs 61 = .pointer (some ⟨fb, 0, none⟩) := hR 3 (hdeps ⟨3, .data⟩ (by simp) rfl)
            have r4 : gs 62 = .agg #[.int .i64 k, .string u, .string t, .string r, .string v] := hR 4 (hdeps ⟨4, .data⟩ (by simp) rfl)
            have hbf := hC.before hLi
            obtain ⟨F2, hs2, hs3⟩ := hC.stepF HS4.out
            have hgl := ((G4.out.step hs2).sub (G := fun i => V i ∨ R i) (fun i h => hs3 i (HS4.out.subVR i h)))
            have HG := Lib.hid hgl
            have HBF := Lib.hid hbf
            clear hbf hgl hs2 hs3
            unfold frD7P4
            go_wp2_with fail
            refine (TL2.out w1 HBF.out.1 HBF.out.2 HG.out).mono ?_
            rintro _ w5 ⟨rfl, hts⟩
            go_wp2_with fail
            exact HQ _ (.tuple #[.agg #[.int .i64 q0, .string u0, .int .i64 g0, .string p0, .string b0], xv]) _ (by simp only [frD7P4, upd1, r3, r4, Nat.reduceEqDiff, reduceIte]) trivial rfl (hC.call hLi hts)
          · have HQ := fun (a' : Act) (va : Value) (w' : World) (h1 : a' = frD7P4 sb eb zb p6 k u t r v g1 (upd1 gs 57 va)) h2 (h3 : laysD7P4 sb k u t r v fb q0 u0 g0 p0 b0 xv 6 va w') h4 => hQ.out a' w' ⟨va, h1, h2, h3, h4⟩
            have r5 : gs 63 = .tuple #[.agg #[.int .i64 q0, .string u0, .int .i64 g0, .string p0, .string b0], xv] := hR 5 (hdeps ⟨5, .data⟩ (by simp) rfl)
            unfold frD7P4
            go_wp2_with fail
            exact HQ _ (.tuple #[.agg #[.int .i64 q0, .string u0, .int .i64 g0, .string p0, .string b0], xv]) _ (by simp only [frD7P4, upd1, r5, Nat.reduceEqDiff, reduceIte]) trivial rfl hC
          · have HQ := fun (a' : Act) (va : Value) (w' : World) (h1 : a' = frD7P4 sb eb zb p6 k u t r v g1 (upd1 gs 64 va)) h2 (h3 : laysD7P4 sb k u t r v fb q0 u0 g0 p0 b0 xv 7 va w') h4 => hQ.out a' w' ⟨va, h1, h2, h3, h4⟩
            have r6 : gs 57 = .tuple #[.agg #[.int .i64 q0, .string u0, .int .i64 g0, .string p0, .string b0], xv] := hR 6 (hdeps ⟨6, .data⟩ (by simp) rfl)
            unfold frD7P4
            go_wp2_with fail
            exact HQ _ (.agg #[.int .i64 q0, .string u0, .int .i64 g0, .string p0, .string b0]) _ (by simp only [frD7P4, upd1, r6, Nat.reduceEqDiff, reduceIte]) trivial rfl hC
          · have HQ := fun (a' : Act) (va : Value) (w' : World) (h1 : a' = frD7P4 sb eb zb p6 k u t r v g1 (upd1 gs 65 va)) h2 (h3 : laysD7P4 sb k u t r v fb q0 u0 g0 p0 b0 xv 8 va w') h4 => hQ.out a' w' ⟨va, h1, h2, h3, h4⟩
            have r6 : gs 57 = .tuple #[.agg #[.int .i64 q0, .string u0, .int .i64 g0, .string p0, .string b0], xv] := hR 6 (hdeps ⟨6, .data⟩ (by simp) rfl)
            unfold frD7P4
            go_wp2_with fail
            exact HQ _ (xv) _ (by simp only [frD7P4, upd1, r6, Nat.reduceEqDiff, reduceIte]) trivial rfl hC
          · have HQ := fun (a' : Act) (va : Value) (w' : World) (h1 : a' = frD7P4 sb eb zb p6 k u t r v g1 (upd1 gs 9 va)) h2 (h3 : laysD7P4 sb k u t r v fb q0 u0 g0 p0 b0 xv 9 va w') h4 => hQ.out a' w' ⟨va, h1, h2, h3, h4⟩
            unfold frD7P4
            go_wp2_with fail
            exact HQ _ (.pointer (some ⟨w1.heap.size, 0, none⟩)) _ (by simp only [frD7P4, upd1, Nat.reduceEqDiff, reduceIte]) trivial ⟨_, rfl⟩ (hC.made hLi)
          · have HQ := fun (a' : Act) (va : Value) (w' : World) (h1 : a' = frD7P4 sb eb zb p6 k u t r v g1 (upd1 gs 1010 va)) h2 (h3 : laysD7P4 sb k u t r v fb q0 u0 g0 p0 b0 xv 10 va w') h4 => hQ.out a' w' ⟨va, h1, h2, h3, h4⟩
            have r7 : gs 64 = .agg #[.int .i64 q0, .string u0, .int .i64 g0, .string p0, .string b0] := hR 7 (hdeps ⟨7, .data⟩ (by simp) rfl)
            have r9 := hR 9 (hdeps ⟨9, .data⟩ (by simp) rfl)
            have HC := Lib.hid hC
            obtain ⟨p, hp⟩ := r9
            change gs 9 = _ at hp
            have l9 : L 9 = true := hdeps ⟨9, .data⟩ (by simp) rfl
            obtain ⟨_, _, _, _, h4⟩ := hC
            obtain ⟨p', hp', hpl, hpb, _, _⟩ := h4 l9
            rw [hp] at hp'
            injection hp' with hp'
            injection hp' with hp'
            injection hp' with hp'
            subst hp'
            rw [show L 10 = false from hLi] at hpb
            have hpb : w1.heap[p]? = some (.cells #[.int .i64 0, .string ⟨#[]⟩, .int .i64 0, .string ⟨#[]⟩, .string ⟨#[]⟩] 55 (0, 0)) := hpb
            have lw1 := lt_of_heap hpb
            have ff := free_of_heap hpb
            have HH := Lib.hid (setRec5 hpb (.int .i64 q0) (.string u0) (.int .i64 g0) (.string p0) (.string b0))
            obtain ⟨z0, z1, z2, z3, z4⟩ := rec_cells (r := ⟨0, ⟨#[]⟩, 0, ⟨#[]⟩, ⟨#[]⟩⟩) hpb
            dsimp only at z0 z1 z2 z3 z4
            clear hpb h4
            unfold frD7P4
            go_wp2_with fail
            exact HQ _ undef _ (by simp only [frD7P4, upd1, r7, hp, Nat.reduceEqDiff, reduceIte]) trivial trivial (HC.out.put l9 hp HH.out.1 HH.out.2)
          · have HQ := fun (a' : Act) (va : Value) (w' : World) (h1 : a' = frD7P4 sb eb zb p6 k u t r v g1 (upd1 gs 7 va)) h2 (h3 : laysD7P4 sb k u t r v fb q0 u0 g0 p0 b0 xv 11 va w') h4 => hQ.out a' w' ⟨va, h1, h2, h3, h4⟩
            have r8 : gs 65 = xv := hR 8 (hdeps ⟨8, .data⟩ (by simp) rfl)
            unfold frD7P4
            go_wp2_with fail
            exact HQ _ (xv) _ (by simp only [frD7P4, upd1, r8, Nat.reduceEqDiff, reduceIte]) trivial rfl hC
        intro L7 g7 w8 hall hR hC
        obtain ⟨R', h1, ⟨h2, h2'⟩, h3, h4⟩ := hC
        rw [hall 5 (by decide), if_pos rfl] at h1
        obtain ⟨p9, hp9, hpl, hpb, hnV, hnR⟩ := h4 (hall 9 (by decide))
        rw [hall 10 (by decide), if_pos rfl] at hpb
        have s7 : g7 7 = xv := hR 11 (by decide)
        have V8 := Lib.hid h1.1
        have F8 := Lib.hid h1.2
        have ST8 := Lib.hid h2
        have NR8 := Lib.hid h2'
        have HP9 := Lib.hid hpb
        have ZL := Lib.hid (lt_of_heap Z3.out)
        have PL9 := Lib.hid hpl
        have hzk := h2.keep (lt_of_heap Z3.out) (by rintro (h | h); exact ZF.out (HS4.out.subV _ h); exact ZF.out (HS4.out.subR _ h))
        have hek := h2.keep (lt_of_heap E3.out) (by rintro (h | h); exact EF.out (HS4.out.subV _ h); exact EF.out (HS4.out.subR _ h))
        have Z8 := Lib.hid (hzk.1.trans Z3.out)
        have E8 := Lib.hid (hek.1.trans E3.out)
        have hbs := h2.keep HS4.out.cells.2.2 (by rintro (h | h); exact HS4.out.sb_.2.1 h; exact HS4.out.sb_.2.2 h)
        have T8 := Lib.hid ((HS4.out.tab.same hbs.1 (fun b hb => (h2.keep (HS4.out.lt _ (HS4.out.tm_ b hb).1) (by rintro (h | h); exact (HS4.out.tm_ b hb).2.1 h; exact (HS4.out.tm_ b hb).2.2 h)).1)).mono (by omega : n ≤ n + 2))
        clear h1 h2 h2' h3 h4 hpl hpb hnV hnR hall hR hzk hek hbs E3 Z3
        unfold frD7P4
        rw [hp9, s7]
        clear hp9 s7
        obtain ⟨y0, y1, y2, y3, y4⟩ := rec_cells (r := ⟨0, ⟨#[]⟩, 0, ⟨#[]⟩, ⟨#[]⟩⟩) Z8.out
        dsimp only at y0 y1 y2 y3 y4
        have lz := lt_of_heap Z8.out
        have fz := free_of_heap Z8.out
        by_cases hx0 : tellX S.has ⟨k, u, t, r, v⟩ = 0
        · obtain rfl : Value.nilIface = xv := by rw [← HXV.out, if_pos hx0]
          have hright := (tellX_right hx0).1
          have AP8 := fun W h => AP.out W S.T (n + 2) (by omega) h
          rw [hright, if_pos rfl, show applyT okV ⟨k, u, t, r, v⟩ S.T = stepT ⟨k, u, t, r, v⟩ S.T by unfold applyT; rw [if_pos hright]] at AP8
          have HX0 := Lib.hid hx0
          clear hx0 hright AP TL2
          unfold evV at AP8
          dsimp only at AP8
          have AP8 := Lib.hid AP8
          obtain ⟨c0, c1, c2, c3, c4⟩ := ev5 (e := ⟨k, u, t, r, v⟩) E8.out
          dsimp only at c0 c1 c2 c3 c4
          have le := lt_of_heap E8.out
          go_wp2_with fail
          refine wp_region_tail 4 (by kernel_rfl) (by kernel_rfl) ?_
          simp only [List.take_succ_cons, List.take_zero, List.drop_succ_cons, List.drop_zero]
          repeat (go_big_quiet_step (fail))
          refine wpQuiet_nil ?_
          rintro _ ⟨x, rfl⟩
          have HX8 := Lib.hid (ext_trans (ext_refl w8) ⟨x, rfl⟩)
          generalize ext w8 x = wx at HX8 ⊢
          clear c0 c1 c2 c3 c4 le y0 y1 y2 y3 y4 lz fz
          have AP8 := AP8.out wx (T8.out.ext HX8.out)
          go_wp2_with fail
          refine AP8.mono ?_
          rintro _ w10 ⟨rfl, mb', t1, t2, t3, kk⟩
          have hkx := ((kept2.refl w8 sb tm).ext HX8.out).trans kk (fun b hb => .inl hb)
          have htl : ∀ b, tm = some b → b < W2.heap.size := fun b hb => HS4.out.lt _ (HS4.out.tm_ b hb).1
          have hsl := HS4.out.cells.2.2
          have HP10 := Lib.hid ((hkx.block p9 (lt_of_heap HP9.out) (fun e => by have := PL9.out; omega) (fun e => by have := htl p9 e.symm; have := PL9.out; omega)).trans HP9.out)
          have Z10 := Lib.hid ((hkx.block zb (lt_of_heap Z8.out) (fun e => ZF.out (e ▸ HS4.out.sb_.1)) (fun e => ZF.out (HS4.out.tm_ zb e.symm).1)).trans Z8.out)
          have TLD := Lib.hid (HS4.out.told ST8.out NR8.out V8.out F8.out t1 t2 (fun e b hb => Nat.le_trans (ext_iff.1 HX8.out).size (t3 e b hb)) hkx)
          clear t1 t2 t3 kk hkx htl hsl AP8 T8 HX8 HP9 Z8 E8
          obtain ⟨z0, z1, z2, z3, z4⟩ := rec_cells (r := ⟨q0, u0, g0, p0, b0⟩) HP10.out
          dsimp only at z0 z1 z2 z3 z4
          have lp := lt_of_heap HP10.out
          obtain ⟨y0, y1, y2, y3, y4⟩ := rec_cells (r := ⟨0, ⟨#[]⟩, 0, ⟨#[]⟩, ⟨#[]⟩⟩) Z10.out
          dsimp only at y0 y1 y2 y3 y4
          have lz := lt_of_heap Z10.out
          have fz := free_of_heap Z10.out
          have SR := Lib.hid (setRec5 Z10.out (.int .i64 q0) (.string u0) (.int .i64 g0) (.string p0) (.string b0))
          go_wp2_with fail
          generalize (((((w10.setCell ⟨zb, 0, none⟩ (.int .i64 q0)).setCell ⟨zb, 1, none⟩ (.string u0)).setCell ⟨zb, 2, none⟩ (.int .i64 g0)).setCell ⟨zb, 3, none⟩ (.string p0)).setCell ⟨zb, 4, none⟩ (.string b0)) = w9 at SR ⊢
          obtain ⟨SR1, SR2⟩ := SR.out
          have hX : X = 0 := HXT.out.trans HX0.out
          obtain ⟨F', hsr, hst⟩ := TLD.out
          rw [← HM2.out, ← HH2.out, ← HL2.out, if_pos HX0.out, if_pos HX0.out, if_pos HX0.out] at hsr
          have hzF : ¬ F' zb := fun h => (hst.sub _ h).elim (fun h => ZF.out h) (fun h => by have := ZL.out; omega)
          have hRR := HRR.out
          rw [if_pos HX0.out] at hRR
          exact ret_cells rfl rfl SR1 Tryz.underlying55 rfl (by kernel_rfl) rfl rfl (HP.out _ _ ⟨by rw [hX, if_pos rfl, if_pos rfl, hRR]; rfl, F', by rw [doS_yes (by rw [HX.out]; exact hX)]; exact hsr.same (fun i hi => SR2.block i (hsr.lt i hi) (fun e => by injection e with e; subst e; exact hzF hi)) SR2.size, (KS2.out.trans hst).put SR2 (.inr (by omega))⟩)
        · obtain rfl : errV (tellX S.has ⟨k, u, t, r, v⟩) = xv := by rw [← HXV.out, if_neg hx0]
          have hX : X ≠ 0 := by rw [HXT.out]; exact hx0
          have SR := Lib.hid (setRec5 Z8.out (.int .i64 0) (.string ⟨#[]⟩) (.int .i64 0) (.string ⟨#[]⟩) (.string ⟨#[]⟩))
          have HM3 := Lib.hid (HM2.out.symm.trans (if_neg hx0))
          have HH3 := Lib.hid (HH2.out.symm.trans (if_neg hx0))
          have HL3 := Lib.hid (HL2.out.symm.trans (if_neg hx0))
          have HXT := Lib.hid HXT.out
          clear hx0 AP TL2
          generalize tellX S.has ⟨k, u, t, r, v⟩ = x8 at HXT ⊢
          have HNE := Lib.hid hX
          clear hX
          go_wp2_with fail
          generalize (((((w8.setCell ⟨zb, 0, none⟩ (.int .i64 0)).setCell ⟨zb, 1, none⟩ (.string ⟨#[]⟩)).setCell ⟨zb, 2, none⟩ (.int .i64 0)).setCell ⟨zb, 3, none⟩ (.string ⟨#[]⟩)).setCell ⟨zb, 4, none⟩ (.string ⟨#[]⟩)) = w9 at SR ⊢
          obtain ⟨SR1, SR2⟩ := SR.out
          have V9 := V8.out
          have F9 := F8.out
          rw [HM3.out, HH3.out] at V9
          rw [HL3.out] at F9
          obtain ⟨F', hsr, hst⟩ := HS4.out.refused ST8.out NR8.out V9 F9
          have hzF : ¬ F' zb := fun h => (hst.sub _ h).elim (fun h => ZF.out h) (fun h => by have := ZL.out; omega)
          exact ret_cells rfl rfl SR1 Tryz.underlying55 rfl (by kernel_rfl) rfl rfl (HP.out _ _ ⟨by rw [if_neg HNE.out, if_neg HNE.out, HXT.out]; rfl, F', by rw [doS_no (by rw [HX.out]; exact HNE.out)]; exact hsr.same (fun i hi => SR2.block i (hsr.lt i hi) (fun e => by injection e with e; subst e; exact hzF hi)) SR2.size, (KS2.out.trans hst).put SR2 (.inr (by omega))⟩)
      | true =>
        obtain rfl : Value.nilIface = ev0 := HEV.out
        go_wp2_with fail
        have HXT : Hid (X = tellX S.has ⟨k, u, t, r, v⟩) := Lib.hid (HDX.out.trans ((if_neg (fun h => k1 h.1)).trans (if_neg (fun h => k2 h.1))))
        clear c0 c1 c2 c3 c4 d0 d1 d2 d3 y0 y1 y2 y3 y4 le lp lz fz SR HDX
        generalize hW2 : w2 = W2 at *
        refine wp_region_slots (frD7P5 sb eb zb p6 k u t r v g1) dstD7P5 (fun k => if k = 7 then .nilIface else undef) (laysD7P5 sb k u t r v fb q0 u0 g0 p0 b0 xv) (fun L g w => tellC V R fb vb n sec S.many many2 S.has has2 S.L L2 #[.int .i64 0, .string ⟨#[]⟩, .int .i64 0, .string ⟨#[]⟩, .string ⟨#[]⟩] #[.int .i64 q0, .string u0, .int .i64 g0, .string p0, .string b0] W2 (L 5) (L 9) (L 10) (g 9) w) (fun w w' => True) (by kernel_rfl) (by kernel_rfl) rfl ?_ (by kernel_rfl) (tellC.start HS4.out.vault HS4.out.feed) ?_ ?_
        · exact fun _ _ _ _ _ h => h
        · refine ⟨?_, ?_, ?_, ?_, ?_, ?_, ?_, ?_, ?_, ?_, ?_, ?_, trivial⟩
          all_goals (intro L gs w1 hLi hdeps hR hC; refine ends_of fun Q hQ => ?_)
          · have HQ := fun (a' : Act) (va : Value) (w' : World) (h1 : a' = frD7P5 sb eb zb p6 k u t r v g1 (upd1 gs 58 va)) h2 (h3 : laysD7P5 sb k u t r v fb q0 u0 g0 p0 b0 xv 0 va w') h4 => hQ.out a' w' ⟨va, h1, h2, h3, h4⟩
            unfold frD7P5
            go_wp2_with fail
            exact HQ _ (.pointer (some ⟨sb, 0, none⟩)) _ (by simp only [frD7P5, upd1, Nat.reduceEqDiff, reduceIte]) trivial rfl hC
          · have HQ := fun (a' : Act) (va : Value) (w' : World) (h1 : a' = frD7P5 sb eb zb p6 k u t r v g1 (upd1 gs 59 va)) h2 (h3 : laysD7P5 sb k u t r v fb q0 u0 g0 p0 b0 xv 1 va w') h4 => hQ.out a' w' ⟨va, h1, h2, h3, h4⟩
            have r0 : gs 58 = .pointer (some ⟨sb, 0, none⟩) := hR 0 (hdeps ⟨0, .data⟩ (by simp) rfl)
            unfold frD7P5
            go_wp2_with fail
            exact HQ _ (.pointer (some ⟨sb, 0, none⟩)) _ (by simp only [frD7P5, upd1, r0, Nat.reduceEqDiff, reduceIte]) trivial rfl hC
          · have HQ := fun (a' : Act) (va : Value) (w' : World) (h1 : a' = frD7P5 sb eb zb p6 k u t r v g1 (upd1 gs 60 va)) h2 (h3 : laysD7P5 sb k u t r v fb q0 u0 g0 p0 b0 xv 2 va w') h4 => hQ.out a' w' ⟨va, h1, h2, h3, h4⟩
            have r1 : gs 59 = .pointer (some ⟨sb, 0, none⟩) := hR 1 (hdeps ⟨1, .data⟩ (by simp) rfl)
            unfold frD7P5
            go_wp2_with fail
            exact HQ _ (.pointer (some ⟨sb, 1, none⟩)) _ (by simp only [frD7P5, upd1, r1, Nat.reduceEqDiff, reduceIte]) trivial rfl hC
          · have HQ := fun (a' : Act) (va : Value) (w' : World) (h1 : a' = frD7P5 sb eb zb p6 k u t r v g1 (upd1 gs 61 va)) h2 (h3 : laysD7P5 sb k u t r v fb q0 u0 g0 p0 b0 xv 3 va w') h4 => hQ.out a' w' ⟨va, h1, h2, h3, h4⟩
            have r2 : gs 60 = .pointer (some ⟨sb, 1, none⟩) := hR 2 (hdeps ⟨2, .data⟩ (by simp) rfl)
            have hb0 := (hC.keep HS4.out.cells.2.2 (by rintro (h | h); exact HS4.out.sb_.2.1 h; exact HS4.out.sb_.2.2 h)).trans HS4.out.tab.blk
            have c1 : w1.cell? ⟨sb, 1, none⟩ = some (.pointer (some ⟨fb, 0, none⟩)) := by rw [cell_in, hb0]; rfl
            have lw1 : sb < w1.heap.size := lt_of_heap hb0
            unfold frD7P5
            go_wp2_with fail
            exact HQ _ (.pointer (some ⟨fb, 0, none⟩)) _ (by simp only [frD7P5, upd1, r2, Nat.reduceEqDiff, reduceIte]) trivial rfl hC
          · have HQ := fun (a' : Act) (va : Value) (w' : World) (h1 : a' = frD7P5 sb eb zb p6 k u t r v g1 (upd1 gs 62 va)) h2 (h3 : laysD7P5 sb k u t r v fb q0 u0 g0 p0 b0 xv 4 va w') h4 => hQ.out a' w' ⟨va, h1, h2, h3, h4⟩
            have hb0 := (hC.keep (lt_of_heap E3.out) (by rintro (h | h); exact EF.out (HS4.out.subV _ h); exact EF.out (HS4.out.subR _ h))).trans E3.out
            obtain ⟨c0, c1, c2, c3, c4⟩ := ev5 (e := ⟨k, u, t, r, v⟩) hb0
            dsimp only at c0 c1 c2 c3 c4
            have lw1 : eb < w1.heap.size := lt_of_heap hb0
            unfold frD7P5
            go_wp2_with fail
            exact HQ _ (.agg #[.int .i64 k, .string u, .string t, .string r, .string v]) _ (by simp only [frD7P5, upd1, Nat.reduceEqDiff, reduceIte]) trivial rfl hC
          · have HQ := fun (a' : Act) (va : Value) (w' : World) (h1 : a' = frD7P5 sb eb zb p6 k u t r v g1 (upd1 gs 63 va)) h2 (h3 : laysD7P5 sb k u t r v fb q0 u0 g0 p0 b0 xv 5 va w') h4 => hQ.out a' w' ⟨va, h1, h2, h3, h4⟩
            have r3 : gs 61 = .pointer (some ⟨fb, 0, none⟩) := hR 3 (hdeps ⟨3, .data⟩ (by simp) rfl)
            have r4 : gs 62 = .agg #[.int .i64 k, .string u, .string t, .string r, .string v] := hR 4 (hdeps ⟨4, .data⟩ (by simp) rfl)
            have hbf := hC.before hLi
            obtain ⟨F2, hs2, hs3⟩ := hC.stepF HS4.out
            have hgl := ((G4.out.step hs2).sub (G := fun i => V i ∨ R i) (fun i h => hs3 i (HS4.out.subVR i h)))
            have HG := Lib.hid hgl
            have HBF := Lib.hid hbf
            clear hbf hgl hs2 hs3
            unfold frD7P5
            go_wp2_with fail
            refine (TL2.out w1 HBF.out.1 HBF.out.2 HG.out).mono ?_
            rintro _ w5 ⟨rfl, hts⟩
            go_wp2_with fail
            exact HQ _ (.tuple #[.agg #[.int .i64 q0, .string u0, .int .i64 g0, .string p0, .string b0], xv]) _ (by simp only [frD7P5, upd1, r3, r4, Nat.reduceEqDiff, reduceIte]) trivial rfl (hC.call hLi hts)
          · have HQ := fun (a' : Act) (va : Value) (w' : World) (h1 : a' = frD7P5 sb eb zb p6 k u t r v g1 (upd1 gs 57 va)) h2 (h3 : laysD7P5 sb k u t r v fb q0 u0 g0 p0 b0 xv 6 va w') h4 => hQ.out a' w' ⟨va, h1, h2, h3, h4⟩
            have r5 : gs 63 = .tuple #[.agg #[.int .i64 q0, .string u0, .int .i64 g0, .string p0, .string b0], xv] := hR 5 (hdeps ⟨5, .data⟩ (by simp) rfl)
            unfold frD7P5
            go_wp2_with fail
            exact HQ _ (.tuple #[.agg #[.int .i64 q0, .string u0, .int .i64 g0, .string p0, .string b0], xv]) _ (by simp only [frD7P5, upd1, r5, Nat.reduceEqDiff, reduceIte]) trivial rfl hC
          · have HQ := fun (a' : Act) (va : Value) (w' : World) (h1 : a' = frD7P5 sb eb zb p6 k u t r v g1 (upd1 gs 64 va)) h2 (h3 : laysD7P5 sb k u t r v fb q0 u0 g0 p0 b0 xv 7 va w') h4 => hQ.out a' w' ⟨va, h1, h2, h3, h4⟩
            have r6 : gs 57 = .tuple #[.agg #[.int .i64 q0, .string u0, .int .i64 g0, .string p0, .string b0], xv] := hR 6 (hdeps ⟨6, .data⟩ (by simp) rfl)
            unfold frD7P5
            go_wp2_with fail
            exact HQ _ (.agg #[.int .i64 q0, .string u0, .int .i64 g0, .string p0, .string b0]) _ (by simp only [frD7P5, upd1, r6, Nat.reduceEqDiff, reduceIte]) trivial rfl hC
          · have HQ := fun (a' : Act) (va : Value) (w' : World) (h1 : a' = frD7P5 sb eb zb p6 k u t r v g1 (upd1 gs 65 va)) h2 (h3 : laysD7P5 sb k u t r v fb q0 u0 g0 p0 b0 xv 8 va w') h4 => hQ.out a' w' ⟨va, h1, h2, h3, h4⟩
            have r6 : gs 57 = .tuple #[.agg #[.int .i64 q0, .string u0, .int .i64 g0, .string p0, .string b0], xv] := hR 6 (hdeps ⟨6, .data⟩ (by simp) rfl)
            unfold frD7P5
            go_wp2_with fail
            exact HQ _ (xv) _ (by simp only [frD7P5, upd1, r6, Nat.reduceEqDiff, reduceIte]) trivial rfl hC
          · have HQ := fun (a' : Act) (va : Value) (w' : World) (h1 : a' = frD7P5 sb eb zb p6 k u t r v g1 (upd1 gs 9 va)) h2 (h3 : laysD7P5 sb k u t r v fb q0 u0 g0 p0 b0 xv 9 va w') h4 => hQ.out a' w' ⟨va, h1, h2, h3, h4⟩
            unfold frD7P5
            go_wp2_with fail
            exact HQ _ (.pointer (some ⟨w1.heap.size, 0, none⟩)) _ (by simp only [frD7P5, upd1, Nat.reduceEqDiff, reduceIte]) trivial ⟨_, rfl⟩ (hC.made hLi)
          · have HQ := fun (a' : Act) (va : Value) (w' : World) (h1 : a' = frD7P5 sb eb zb p6 k u t r v g1 (upd1 gs 1010 va)) h2 (h3 : laysD7P5 sb k u t r v fb q0 u0 g0 p0 b0 xv 10 va w') h4 => hQ.out a' w' ⟨va, h1, h2, h3, h4⟩
            have r7 : gs 64 = .agg #[.int .i64 q0, .string u0, .int .i64 g0, .string p0, .string b0] := hR 7 (hdeps ⟨7, .data⟩ (by simp) rfl)
            have r9 := hR 9 (hdeps ⟨9, .data⟩ (by simp) rfl)
            have HC := Lib.hid hC
            obtain ⟨p, hp⟩ := r9
            change gs 9 = _ at hp
            have l9 : L 9 = true := hdeps ⟨9, .data⟩ (by simp) rfl
            obtain ⟨_, _, _, _, h4⟩ := hC
            obtain ⟨p', hp', hpl, hpb, _, _⟩ := h4 l9
            rw [hp] at hp'
            injection hp' with hp'
            injection hp' with hp'
            injection hp' with hp'
            subst hp'
            rw [show L 10 = false from hLi] at hpb
            have hpb : w1.heap[p]? = some (.cells #[.int .i64 0, .string ⟨#[]⟩, .int .i64 0, .string ⟨#[]⟩, .string ⟨#[]⟩] 55 (0, 0)) := hpb
            have lw1 := lt_of_heap hpb
            have ff := free_of_heap hpb
            have HH := Lib.hid (setRec5 hpb (.int .i64 q0) (.string u0) (.int .i64 g0) (.string p0) (.string b0))
            obtain ⟨z0, z1, z2, z3, z4⟩ := rec_cells (r := ⟨0, ⟨#[]⟩, 0, ⟨#[]⟩, ⟨#[]⟩⟩) hpb
            dsimp only at z0 z1 z2 z3 z4
            clear hpb h4
            unfold frD7P5
            go_wp2_with fail
            exact HQ _ undef _ (by simp only [frD7P5, upd1, r7, hp, Nat.reduceEqDiff, reduceIte]) trivial trivial (HC.out.put l9 hp HH.out.1 HH.out.2)
          · have HQ := fun (a' : Act) (va : Value) (w' : World) (h1 : a' = frD7P5 sb eb zb p6 k u t r v g1 (upd1 gs 7 va)) h2 (h3 : laysD7P5 sb k u t r v fb q0 u0 g0 p0 b0 xv 11 va w') h4 => hQ.out a' w' ⟨va, h1, h2, h3, h4⟩
            have r8 : gs 65 = xv := hR 8 (hdeps ⟨8, .data⟩ (by simp) rfl)
            unfold frD7P5
            go_wp2_with fail
            exact HQ _ (xv) _ (by simp only [frD7P5, upd1, r8, Nat.reduceEqDiff, reduceIte]) trivial rfl hC
        intro L7 g7 w8 hall hR hC
        obtain ⟨R', h1, ⟨h2, h2'⟩, h3, h4⟩ := hC
        rw [hall 5 (by decide), if_pos rfl] at h1
        obtain ⟨p9, hp9, hpl, hpb, hnV, hnR⟩ := h4 (hall 9 (by decide))
        rw [hall 10 (by decide), if_pos rfl] at hpb
        have s7 : g7 7 = xv := hR 11 (by decide)
        have V8 := Lib.hid h1.1
        have F8 := Lib.hid h1.2
        have ST8 := Lib.hid h2
        have NR8 := Lib.hid h2'
        have HP9 := Lib.hid hpb
        have ZL := Lib.hid (lt_of_heap Z3.out)
        have PL9 := Lib.hid hpl
        have hzk := h2.keep (lt_of_heap Z3.out) (by rintro (h | h); exact ZF.out (HS4.out.subV _ h); exact ZF.out (HS4.out.subR _ h))
        have hek := h2.keep (lt_of_heap E3.out) (by rintro (h | h); exact EF.out (HS4.out.subV _ h); exact EF.out (HS4.out.subR _ h))
        have Z8 := Lib.hid (hzk.1.trans Z3.out)
        have E8 := Lib.hid (hek.1.trans E3.out)
        have hbs := h2.keep HS4.out.cells.2.2 (by rintro (h | h); exact HS4.out.sb_.2.1 h; exact HS4.out.sb_.2.2 h)
        have T8 := Lib.hid ((HS4.out.tab.same hbs.1 (fun b hb => (h2.keep (HS4.out.lt _ (HS4.out.tm_ b hb).1) (by rintro (h | h); exact (HS4.out.tm_ b hb).2.1 h; exact (HS4.out.tm_ b hb).2.2 h)).1)).mono (by omega : n ≤ n + 2))
        clear h1 h2 h2' h3 h4 hpl hpb hnV hnR hall hR hzk hek hbs E3 Z3
        unfold frD7P5
        rw [hp9, s7]
        clear hp9 s7
        obtain ⟨y0, y1, y2, y3, y4⟩ := rec_cells (r := ⟨0, ⟨#[]⟩, 0, ⟨#[]⟩, ⟨#[]⟩⟩) Z8.out
        dsimp only at y0 y1 y2 y3 y4
        have lz := lt_of_heap Z8.out
        have fz := free_of_heap Z8.out
        by_cases hx0 : tellX S.has ⟨k, u, t, r, v⟩ = 0
        · obtain rfl : Value.nilIface = xv := by rw [← HXV.out, if_pos hx0]
          have hright := (tellX_right hx0).1
          have AP8 := fun W h => AP.out W S.T (n + 2) (by omega) h
          rw [hright, if_pos rfl, show applyT okV ⟨k, u, t, r, v⟩ S.T = stepT ⟨k, u, t, r, v⟩ S.T by unfold applyT; rw [if_pos hright]] at AP8
          have HX0 := Lib.hid hx0
          clear hx0 hright AP TL2
          unfold evV at AP8
          dsimp only at AP8
          have AP8 := Lib.hid AP8
          obtain ⟨c0, c1, c2, c3, c4⟩ := ev5 (e := ⟨k, u, t, r, v⟩) E8.out
          dsimp only at c0 c1 c2 c3 c4
          have le := lt_of_heap E8.out
          go_wp2_with fail
          refine wp_region_tail 4 (by kernel_rfl) (by kernel_rfl) ?_
          simp only [List.take_succ_cons, List.take_zero, List.drop_succ_cons, List.drop_zero]
          repeat (go_big_quiet_step (fail))
          refine wpQuiet_nil ?_
          rintro _ ⟨x, rfl⟩
          have HX8 := Lib.hid (ext_trans (ext_refl w8) ⟨x, rfl⟩)
          generalize ext w8 x = wx at HX8 ⊢
          clear c0 c1 c2 c3 c4 le y0 y1 y2 y3 y4 lz fz
          have AP8 := AP8.out wx (T8.out.ext HX8.out)
          go_wp2_with fail
          refine AP8.mono ?_
          rintro _ w10 ⟨rfl, mb', t1, t2, t3, kk⟩
          have hkx := ((kept2.refl w8 sb tm).ext HX8.out).trans kk (fun b hb => .inl hb)
          have htl : ∀ b, tm = some b → b < W2.heap.size := fun b hb => HS4.out.lt _ (HS4.out.tm_ b hb).1
          have hsl := HS4.out.cells.2.2
          have HP10 := Lib.hid ((hkx.block p9 (lt_of_heap HP9.out) (fun e => by have := PL9.out; omega) (fun e => by have := htl p9 e.symm; have := PL9.out; omega)).trans HP9.out)
          have Z10 := Lib.hid ((hkx.block zb (lt_of_heap Z8.out) (fun e => ZF.out (e ▸ HS4.out.sb_.1)) (fun e => ZF.out (HS4.out.tm_ zb e.symm).1)).trans Z8.out)
          have TLD := Lib.hid (HS4.out.told ST8.out NR8.out V8.out F8.out t1 t2 (fun e b hb => Nat.le_trans (ext_iff.1 HX8.out).size (t3 e b hb)) hkx)
          clear t1 t2 t3 kk hkx htl hsl AP8 T8 HX8 HP9 Z8 E8
          obtain ⟨z0, z1, z2, z3, z4⟩ := rec_cells (r := ⟨q0, u0, g0, p0, b0⟩) HP10.out
          dsimp only at z0 z1 z2 z3 z4
          have lp := lt_of_heap HP10.out
          obtain ⟨y0, y1, y2, y3, y4⟩ := rec_cells (r := ⟨0, ⟨#[]⟩, 0, ⟨#[]⟩, ⟨#[]⟩⟩) Z10.out
          dsimp only at y0 y1 y2 y3 y4
          have lz := lt_of_heap Z10.out
          have fz := free_of_heap Z10.out
          have SR := Lib.hid (setRec5 Z10.out (.int .i64 q0) (.string u0) (.int .i64 g0) (.string p0) (.string b0))
          go_wp2_with fail
          generalize (((((w10.setCell ⟨zb, 0, none⟩ (.int .i64 q0)).setCell ⟨zb, 1, none⟩ (.string u0)).setCell ⟨zb, 2, none⟩ (.int .i64 g0)).setCell ⟨zb, 3, none⟩ (.string p0)).setCell ⟨zb, 4, none⟩ (.string b0)) = w9 at SR ⊢
          obtain ⟨SR1, SR2⟩ := SR.out
          have hX : X = 0 := HXT.out.trans HX0.out
          obtain ⟨F', hsr, hst⟩ := TLD.out
          rw [← HM2.out, ← HH2.out, ← HL2.out, if_pos HX0.out, if_pos HX0.out, if_pos HX0.out] at hsr
          have hzF : ¬ F' zb := fun h => (hst.sub _ h).elim (fun h => ZF.out h) (fun h => by have := ZL.out; omega)
          have hRR := HRR.out
          rw [if_pos HX0.out] at hRR
          exact ret_cells rfl rfl SR1 Tryz.underlying55 rfl (by kernel_rfl) rfl rfl (HP.out _ _ ⟨by rw [hX, if_pos rfl, if_pos rfl, hRR]; rfl, F', by rw [doS_yes (by rw [HX.out]; exact hX)]; exact hsr.same (fun i hi => SR2.block i (hsr.lt i hi) (fun e => by injection e with e; subst e; exact hzF hi)) SR2.size, (KS2.out.trans hst).put SR2 (.inr (by omega))⟩)
        · obtain rfl : errV (tellX S.has ⟨k, u, t, r, v⟩) = xv := by rw [← HXV.out, if_neg hx0]
          have hX : X ≠ 0 := by rw [HXT.out]; exact hx0
          have SR := Lib.hid (setRec5 Z8.out (.int .i64 0) (.string ⟨#[]⟩) (.int .i64 0) (.string ⟨#[]⟩) (.string ⟨#[]⟩))
          have HM3 := Lib.hid (HM2.out.symm.trans (if_neg hx0))
          have HH3 := Lib.hid (HH2.out.symm.trans (if_neg hx0))
          have HL3 := Lib.hid (HL2.out.symm.trans (if_neg hx0))
          have HXT := Lib.hid HXT.out
          clear hx0 AP TL2
          generalize tellX S.has ⟨k, u, t, r, v⟩ = x8 at HXT ⊢
          have HNE := Lib.hid hX
          clear hX
          go_wp2_with fail
          generalize (((((w8.setCell ⟨zb, 0, none⟩ (.int .i64 0)).setCell ⟨zb, 1, none⟩ (.string ⟨#[]⟩)).setCell ⟨zb, 2, none⟩ (.int .i64 0)).setCell ⟨zb, 3, none⟩ (.string ⟨#[]⟩)).setCell ⟨zb, 4, none⟩ (.string ⟨#[]⟩)) = w9 at SR ⊢
          obtain ⟨SR1, SR2⟩ := SR.out
          have V9 := V8.out
          have F9 := F8.out
          rw [HM3.out, HH3.out] at V9
          rw [HL3.out] at F9
          obtain ⟨F', hsr, hst⟩ := HS4.out.refused ST8.out NR8.out V9 F9
          have hzF : ¬ F' zb := fun h => (hst.sub _ h).elim (fun h => ZF.out h) (fun h => by have := ZL.out; omega)
          exact ret_cells rfl rfl SR1 Tryz.underlying55 rfl (by kernel_rfl) rfl rfl (HP.out _ _ ⟨by rw [if_neg HNE.out, if_neg HNE.out, HXT.out]; rfl, F', by rw [doS_no (by rw [HX.out]; exact HNE.out)]; exact hsr.same (fun i hi => SR2.block i (hsr.lt i hi) (fun e => by injection e with e; subst e; exact hzF hi)) SR2.size, (KS2.out.trans hst).put SR2 (.inr (by omega))⟩)
end Go.Proofs.YtgckpfeeioljeaaGreatDoor
