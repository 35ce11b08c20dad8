/- feed: New, Tell (the walks). -/
import Derived.Test.YtnkmckdefiblhaaGreatDoorProg
import Derived.Test.YtnkmckdefiblhaaGreatDoorG19
import Derived.Test.YtnkmckdefiblhaaGreatDoorG12
import Derived.Test.YtnkmckdefiblhaaGreatDoorG20
import Derived.ArgAppend
namespace Go.Proofs.YtnkmckdefiblhaaGreatDoor
open Go.RowKit Go.Shelf

set_option maxRecDepth 100000 in
set_option maxHeartbeats 1000000 in
theorem fnew_any (vb : Nat) (w : World) :
    Calls Tryz.prog 24 #[.pointer (some ⟨vb, 0, none⟩)] w fun r w' => ∃ fb R, r = .returned (.tuple #[.pointer (some ⟨fb, 0, none⟩), .nilIface]) ∧ feedIn w' R fb vb [] ∧ step w w' none0 R ∧ ∃ x, w' = ext w x := by
  go_enter Tryz.func24, Tryz.ntmps24
  go_wp2_with fail
  go_ret2
  have X := ext_alloc (.cells #[.pointer (some ⟨vb, 0, none⟩), .slice none 0 0] 90) (ext_refl w)
  refine ⟨w.heap.size, fun i => i = w.heap.size, rfl, ⟨⟨none, 0, heap_alloc_at _ _, Nat.le_refl _, .inl rfl, fun a h => by cases h⟩, rfl, fun i hi => by rw [hi]; simp, fun r hr => by (cases hr), by simp⟩, (step.of_ext none0 X).more (fun i hi => .inr (by rw [hi]; simp)), X⟩
theorem ev5 {w : World} {b : Nat} {e : Ev} {y : TypeId} {f : Nat × Nat} (h : w.heap[b]? = some (.cells (evV e) y f)) :
    w.cell? ⟨b, 0, none⟩ = some (.int .i64 e.kind) ∧ w.cell? ⟨b, 1, none⟩ = some (.string e.subject) ∧ w.cell? ⟨b, 2, none⟩ = some (.string e.table) ∧ w.cell? ⟨b, 3, none⟩ = some (.string e.row) ∧ w.cell? ⟨b, 4, none⟩ = some (.string e.value) := by
  refine ⟨?_, ?_, ?_, ?_, ?_⟩ <;> (rw [cell_in, h]; rfl)
/-- What a Tell that is refused leaves. -/
def TellNo (x : Int) (_e : Ev) (w : World) (V R : Blk) (fb vb n : Nat) (sec : ByteArray) (many : ByteArray → Nat) (has : ByteArray → Bool) (L : List Rec) (r : Ending) (w' : World) : Prop :=
  r = .returned (.tuple #[.agg (recV zeroR), errV x]) ∧ vaultIn w' V vb n sec many has ∧ feedIn w' R fb vb L ∧ step w w' (fun i => V i ∨ R i) (fun i => V i ∨ R i)
/-- A record that is laid, then filled. -/
def newR (w2 : World) (x0 x1 : Array Value) (made done : Bool) (pv : Value) (w : World) : Prop :=
  Below w2.heap.size w2 w ∧ (done = true → made = true) ∧ (made = true → ∃ p, pv = .pointer (some ⟨p, 0, none⟩) ∧ w2.heap.size ≤ p ∧ w.heap[p]? = some (.cells (if done = true then x1 else x0) 108 (0, 0)))
theorem newR.start (w2 : World) (x0 x1 : Array Value) (pv : Value) : newR w2 x0 x1 false false pv { w2 with drawn := w2.drawn + 1 } :=
  ⟨(Below.refl _ _).drew, fun h => h, (fun h => by cases h)⟩
theorem newR.ext {w2 w w' : World} {x0 x1 : Array Value} {made done : Bool} {pv : Value} (h : newR w2 x0 x1 made done pv w) (hx : ∃ x, w' = Go.Proofs.YtnkmckdefiblhaaGreatDoor.ext w x) : newR w2 x0 x1 made done pv w' := by
  have hb := ext_iff.1 hx
  refine ⟨h.1.trans (hb.mono h.1.size), h.2.1, fun hm => ?_⟩
  obtain ⟨p, h1, h2, h3⟩ := h.2.2 hm
  exact ⟨p, h1, h2, (hb.block _ (lt_of_heap h3)).trans h3⟩
theorem newR.made {w2 w : World} {x0 x1 : Array Value} {m d : Bool} {pv : Value} (h : newR w2 x0 x1 m d pv w) (hm : m = false) : newR w2 x0 x1 true d (.pointer (some ⟨w.heap.size, 0, none⟩)) (w.alloc (.cells x0 108)) := by
  have hd : d = false := by
    cases d with
    | false => rfl
    | true => have := h.2.1 rfl; rw [hm] at this; cases this
  subst hd
  exact ⟨h.1.alloc h.1.size _, (fun h => by cases h), fun _ => ⟨_, rfl, h.1.size, heap_alloc_at w _⟩⟩
/-- A whole record is stored. -/
theorem setRec5 {w : World} {b : Nat} {v0 v1 v2 v3 v4 : Value} {t : TypeId} (h : w.heap[b]? = some (.cells #[v0, v1, v2, v3, v4] t (0, 0))) (x0 x1 x2 x3 x4 : Value) :
    (((((w.setCell ⟨b, 0, none⟩ x0).setCell ⟨b, 1, none⟩ x1).setCell ⟨b, 2, none⟩ x2).setCell ⟨b, 3, none⟩ x3).setCell ⟨b, 4, none⟩ x4).heap[b]? = some (.cells #[x0, x1, x2, x3, x4] t (0, 0)) ∧
    w.grownBy (((((w.setCell ⟨b, 0, none⟩ x0).setCell ⟨b, 1, none⟩ x1).setCell ⟨b, 2, none⟩ x2).setCell ⟨b, 3, none⟩ x3).setCell ⟨b, 4, none⟩ x4) (some b) :=
  ⟨heap_setCell (heap_setCell (heap_setCell (heap_setCell (heap_setCell h _) _) _) _) _, ((((grown_setCell _ _ _ _).trans (grown_setCell _ _ _ _)).trans (grown_setCell _ _ _ _)).trans (grown_setCell _ _ _ _)).trans (grown_setCell _ _ _ _)⟩
theorem newR.done {w2 w : World} {v0 v1 v2 v3 v4 x0 x1 x2 x3 x4 : Value} {m d : Bool} {pv : Value} {p : Nat} (h : newR w2 #[v0, v1, v2, v3, v4] #[x0, x1, x2, x3, x4] m d pv w) (hm : m = true) (hp : pv = .pointer (some ⟨p, 0, none⟩)) (hb : w.heap[p]? = some (.cells #[v0, v1, v2, v3, v4] 108 (0, 0))) :
    newR w2 #[v0, v1, v2, v3, v4] #[x0, x1, x2, x3, x4] m true pv (((((w.setCell ⟨p, 0, none⟩ x0).setCell ⟨p, 1, none⟩ x1).setCell ⟨p, 2, none⟩ x2).setCell ⟨p, 3, none⟩ x3).setCell ⟨p, 4, none⟩ x4) := by
  have S := setRec5 hb x0 x1 x2 x3 x4
  generalize (((((w.setCell ⟨p, 0, none⟩ x0).setCell ⟨p, 1, none⟩ x1).setCell ⟨p, 2, none⟩ x2).setCell ⟨p, 3, none⟩ x3).setCell ⟨p, 4, none⟩ x4) = w' at S ⊢
  obtain ⟨s1, s2⟩ := S
  obtain ⟨p', e1, e2, e3⟩ := h.2.2 hm
  have e4 := hp.symm.trans e1
  simp only [Value.pointer.injEq, Option.some.injEq, Addr.mk.injEq, and_true] at e4
  subst e4
  exact ⟨h.1.grown s2 h.1.size (fun j e => by cases e; exact e2), fun _ => hm, fun _ => ⟨p, hp, e2, by rw [if_pos rfl]; exact s1⟩⟩
def frT6 (fb : Nat) (eb : Nat) (zb : Nat) (n : Nat) (cap : Nat) (q : Option Addr) (k : Int) (u : ByteArray) (t : ByteArray) (r : ByteArray) (v0 : ByteArray) (pb : ByteArray) (g : Nat → Value) : Act := { tmps := #[.pointer (some ⟨fb, 0, none⟩), .agg #[.int .i64 k, .string u, .string t, .string r, .string v0], undef, .pointer (some ⟨eb, 0, none⟩), .pointer (some ⟨zb, 0, none⟩), .nilIface, .string pb, .nilIface, g 8, undef, undef, undef, undef, .tuple #[.string pb, .nilIface], .agg #[.int .i64 k, .string u, .string t, .string r, .string v0], .tuple #[.string pb, .nilIface], .string pb, .nilIface, .bool false, .nilIface, .bool false, undef, undef, .bool false, .pointer (some ⟨fb, 0, none⟩), .pointer (some ⟨fb, 0, none⟩), .pointer (some ⟨fb, 1, none⟩), .slice q n cap, .int .i64 n, .bool false, undef, undef, g 32, g 33, g 34, g 35, g 36, g 37, g 38, g 39, g 40, g 41, g 42, undef, undef, undef, undef, undef, undef, undef, undef, undef, undef, undef, undef, undef, undef, undef, undef, undef, undef, undef, undef, undef, undef, undef, undef, undef, undef, undef, undef, undef, undef, undef, undef, undef, undef, undef, undef, undef, undef, undef, undef, undef, undef, undef, undef, undef, undef, undef, undef, undef, undef, undef, undef, undef, undef, undef, undef, undef, undef, undef, undef], defers := [] }
def dstT6 (i : Nat) : Nat := ([32, 33, 34, 35, 36, 37, 38, 39, 40, 41, 42, 8, 1012] : List Nat).getD i (2000 + i)
def laysT6 (fb : Nat) (eb : Nat) (n : Nat) (cap : Nat) (q : Option Addr) (u : ByteArray) (hd : ByteArray) (j : Nat) (v : Value) (_ : World) : Prop :=
  match j with
  | 0 => v = .pointer (some ⟨fb, 0, none⟩)
  | 1 => v = .pointer (some ⟨fb, 0, none⟩)
  | 2 => v = .pointer (some ⟨fb, 1, none⟩)
  | 3 => v = .slice q n cap
  | 4 => v = .int .i64 n
  | 5 => v = .int .i64 ((n : Int) + 1)
  | 6 => v = .pointer (some ⟨eb, 1, none⟩)
  | 7 => v = .string u
  | 8 => v = .pointer (some ⟨fb, 0, none⟩)
  | 9 => v = .string hd
  | 10 => v = .agg #[.int .i64 ((n : Int) + 1), .string u, .int .i64 0, .string hd, .string ⟨#[]⟩]
  | 11 => ∃ p, v = .pointer (some ⟨p, 0, none⟩)
  | _ => True

/-- A vault that is asked for a key. -/
def madeV (V : Blk) (vb n : Nat) (sec : ByteArray) (many : ByteArray → Nat) (has : ByteArray → Bool) (many' : ByteArray → Nat) (has' : ByteArray → Bool) (w4 : World) (done : Bool) (w : World) : Prop :=
  step w4 w V V ∧ if done = true then vaultIn w V vb (n + 2) sec many' has' else vaultIn w V vb n sec many has
theorem step.drawn (w : World) (V : Blk) (n : Nat) : step w { w with drawn := n } V V := ⟨rfl, rfl, rfl, Nat.le_refl _, fun _ _ _ => rfl, fun _ h => .inl h⟩
theorem madeV.start {V : Blk} {vb n : Nat} {sec : ByteArray} {many : ByteArray → Nat} {has : ByteArray → Bool} {many' : ByteArray → Nat} {has' : ByteArray → Bool} {w4 : World} (h : vaultIn w4 V vb n sec many has) : madeV V vb n sec many has many' has' w4 false { w4 with drawn := w4.drawn + 1 } :=
  ⟨.drawn _ _ _, h.same (fun _ _ => rfl) (Nat.le_refl _)⟩
def frT12 (fb : Nat) (eb : Nat) (zb : Nat) (n : Nat) (cap : Nat) (q : Option Addr) (k : Int) (u : ByteArray) (t : ByteArray) (r : ByteArray) (v0 : ByteArray) (pb : ByteArray) (p8 : Nat) (g6 : Nat → Value) (g : Nat → Value) : Act := { tmps := #[.pointer (some ⟨fb, 0, none⟩), .agg #[.int .i64 k, .string u, .string t, .string r, .string v0], undef, .pointer (some ⟨eb, 0, none⟩), .pointer (some ⟨zb, 0, none⟩), .nilIface, .string pb, .nilIface, .pointer (some ⟨p8, 0, none⟩), undef, g 10, g 11, g 12, .tuple #[.string pb, .nilIface], .agg #[.int .i64 k, .string u, .string t, .string r, .string v0], .tuple #[.string pb, .nilIface], .string pb, .nilIface, .bool false, .nilIface, .bool false, undef, undef, .bool false, .pointer (some ⟨fb, 0, none⟩), .pointer (some ⟨fb, 0, none⟩), .pointer (some ⟨fb, 1, none⟩), .slice q n cap, .int .i64 n, .bool false, undef, undef, g6 32, g6 33, g6 34, g6 35, g6 36, g6 37, g6 38, g6 39, g6 40, g6 41, g6 42, .pointer (some ⟨eb, 0, none⟩), .int .i64 k, .bool false, undef, undef, undef, undef, undef, undef, undef, undef, undef, undef, undef, undef, undef, g 59, g 60, g 61, g 62, g 63, g 64, g 65, g 66, g 67, g 68, g 69, undef, undef, undef, undef, undef, undef, undef, undef, undef, undef, undef, undef, undef, undef, undef, undef, undef, undef, undef, undef, undef, undef, undef, undef, undef, undef, undef, undef, undef, undef, undef, undef, undef], defers := [] }
def dstT12 (i : Nat) : Nat := ([60, 61, 62, 63, 64, 65, 66, 59, 67, 68, 69, 10, 11, 12] : List Nat).getD i (2000 + i)
def laysT12 (fb : Nat) (eb : Nat) (u : ByteArray) (vb : Nat) (mn : Nat) (key : ByteArray) (j : Nat) (v : Value) (_ : World) : Prop :=
  match j with
  | 0 => v = .pointer (some ⟨fb, 0, none⟩)
  | 1 => v = .pointer (some ⟨fb, 0, none⟩)
  | 2 => v = .pointer (some ⟨fb, 0, none⟩)
  | 3 => v = .pointer (some ⟨vb, 0, none⟩)
  | 4 => v = .pointer (some ⟨eb, 1, none⟩)
  | 5 => v = .string u
  | 6 => v = .tuple #[.int .i64 mn, .string key, .nilIface]
  | 7 => v = .tuple #[.int .i64 mn, .string key, .nilIface]
  | 8 => v = .int .i64 mn
  | 9 => v = .string key
  | 10 => v = .nilIface
  | 11 => v = .int .i64 mn
  | 12 => v = .string key
  | 13 => v = .nilIface
  | _ => True

theorem Rounds.grown {w w' : World} {p : Nat} (h : Rounds w) (hg : w.grownBy w' (some p)) (hn : 0 ≠ p) : Rounds w' :=
  ⟨Nat.lt_of_lt_of_le h.1 hg.size, fun i hi => by
    have := h.2 i hi; rw [cell_in] at this ⊢; rw [hg.block _ h.1 (fun e => hn (by injection e))]; exact this⟩
theorem grown_drawn (w : World) (n : Nat) (row : Option Nat) : w.grownBy { w with drawn := n } row := ⟨rfl, rfl, rfl, Nat.le_refl _, fun _ _ _ => rfl⟩
/-- A record in a block, whose body is laid. -/
def heldR (w4 : World) (p : Nat) (x0 x1 : Array Value) (done : Bool) (w : World) : Prop :=
  w4.grownBy w (some p) ∧ w.heap[p]? = some (.cells (if done = true then x1 else x0) 108 (0, 0))
theorem heldR.ext {w4 w w' : World} {p : Nat} {x0 x1 : Array Value} {done : Bool} (h : heldR w4 p x0 x1 done w) (hx : ∃ x, w' = Go.Proofs.YtnkmckdefiblhaaGreatDoor.ext w x) : heldR w4 p x0 x1 done w' :=
  ⟨h.1.trans (grown_below (ext_iff.1 hx) _), ((ext_iff.1 hx).block _ (lt_of_heap h.2)).trans h.2⟩
theorem heldR.put {w4 w : World} {p : Nat} {v0 v1 v2 v3 v4 : Value} {x1 : Array Value} {x : Value} (h : heldR w4 p #[v0, v1, v2, v3, v4] x1 false w) (hx : x1 = #[v0, v1, v2, v3, x]) : heldR w4 p #[v0, v1, v2, v3, v4] x1 true (w.setCell ⟨p, 4, none⟩ x) := by
  refine ⟨h.1.trans (grown_setCell _ _ _ _), ?_⟩
  rw [if_pos rfl, hx]
  exact heap_setCell (i := 4) h.2 x
def frT16 (fb : Nat) (eb : Nat) (zb : Nat) (n : Nat) (cap : Nat) (q : Option Addr) (k : Int) (u : ByteArray) (t : ByteArray) (r : ByteArray) (v0 : ByteArray) (pb : ByteArray) (p8 : Nat) (g6 : Nat → Value) (mn : Nat) (key : ByteArray) (g12 : Nat → Value) (g : Nat → Value) : Act := { tmps := #[.pointer (some ⟨fb, 0, none⟩), .agg #[.int .i64 k, .string u, .string t, .string r, .string v0], undef, .pointer (some ⟨eb, 0, none⟩), .pointer (some ⟨zb, 0, none⟩), .nilIface, .string pb, .nilIface, .pointer (some ⟨p8, 0, none⟩), undef, .int .i64 mn, .string key, g 12, .tuple #[.string pb, .nilIface], .agg #[.int .i64 k, .string u, .string t, .string r, .string v0], .tuple #[.string pb, .nilIface], .string pb, .nilIface, .bool false, .nilIface, .bool false, undef, undef, .bool false, .pointer (some ⟨fb, 0, none⟩), .pointer (some ⟨fb, 0, none⟩), .pointer (some ⟨fb, 1, none⟩), .slice q n cap, .int .i64 n, .bool false, undef, undef, g6 32, g6 33, g6 34, g6 35, g6 36, g6 37, g6 38, g6 39, g6 40, g6 41, g6 42, .pointer (some ⟨eb, 0, none⟩), .int .i64 k, .bool false, undef, undef, undef, undef, undef, undef, undef, undef, undef, undef, undef, undef, undef, g12 59, g12 60, g12 61, g12 62, g12 63, g12 64, g12 65, g12 66, g12 67, g12 68, g12 69, .nilIface, .bool false, undef, undef, .int .i64 mn, .pointer (some ⟨p8, 2, none⟩), g 76, g 77, g 78, g 79, g 80, g 81, g 82, g 83, g 84, g 85, g 86, undef, undef, undef, undef, undef, undef, undef, undef, undef, undef, undef, undef, undef, undef, undef, undef], defers := [] }
def dstT16 (i : Nat) : Nat := ([77, 78, 79, 80, 81, 82, 83, 76, 84, 85, 86, 1011, 12] : List Nat).getD i (2000 + i)
def laysT16 (n : Nat) (u : ByteArray) (pb : ByteArray) (p8 : Nat) (mn : Nat) (key : ByteArray) (nn : ByteArray) (ww : ByteArray) (body : ByteArray) (hd : ByteArray) (j : Nat) (v : Value) (_ : World) : Prop :=
  match j with
  | 0 => v = .string key
  | 1 => v = .agg #[.int .i64 ((n : Int) + 1), .string u, .int .i64 mn, .string hd, .string ⟨#[]⟩]
  | 2 => v = .string nn
  | 3 => v = .agg #[.int .i64 ((n : Int) + 1), .string u, .int .i64 mn, .string hd, .string ⟨#[]⟩]
  | 4 => v = .string ww
  | 5 => v = .string pb
  | 6 => v = .tuple #[.string body, .nilIface]
  | 7 => v = .tuple #[.string body, .nilIface]
  | 8 => v = .string body
  | 9 => v = .nilIface
  | 10 => v = .pointer (some ⟨p8, 4, none⟩)
  | 12 => v = .nilIface
  | _ => True

/-- A feed, to whose slice another is laid. -/
def stF (fb vb n cap : Nat) (q : Option Addr) (w7 : World) (done : Bool) (sv : Value) (w : World) : Prop :=
  w7.grownBy w (some fb) ∧ w.heap[fb]? = some (.cells #[.pointer (some ⟨vb, 0, none⟩), if done = true then sv else .slice q n cap] 90 (0, 0))
theorem stF.ext {fb vb n cap : Nat} {q : Option Addr} {w7 w w' : World} {done : Bool} {sv : Value} (h : stF fb vb n cap q w7 done sv w) (hx : ∃ x, w' = Go.Proofs.YtnkmckdefiblhaaGreatDoor.ext w x) : stF fb vb n cap q w7 done sv w' :=
  ⟨h.1.trans (grown_below (ext_iff.1 hx) _), ((ext_iff.1 hx).block _ (lt_of_heap h.2)).trans h.2⟩
theorem stF.any {fb vb n cap : Nat} {q : Option Addr} {w7 w : World} {sv x : Value} (h : stF fb vb n cap q w7 false sv w) : stF fb vb n cap q w7 false x w := h
theorem stF.put {fb vb n cap : Nat} {q : Option Addr} {w7 w : World} {sv x : Value} (h : stF fb vb n cap q w7 false sv w) : stF fb vb n cap q w7 true x (w.setCell ⟨fb, 1, none⟩ x) := by
  refine ⟨h.1.trans (grown_setCell _ _ _ _), ?_⟩
  rw [if_pos rfl]
  exact heap_setCell (i := 1) h.2 x
set_option maxRecDepth 100000 in
theorem clip_any (q : Option Addr) (n c : Nat) (w : World) (h : n ≤ c) : Calls Tryz.prog 153 #[.slice q n c] w fun r w' => r = .returned (.slice q n n) ∧ w = w' := by
  go_enter Tryz.func153, Tryz.ntmps153
  go_wp2_with fail
  go_ret
  exact ⟨rfl, rfl⟩
theorem step.put {w w1 w2 : World} {F F' : Blk} {j : Nat} (h : step w w1 F F') (g : w1.grownBy w2 (some j)) (hj : F j ∨ w.heap.size ≤ j) : step w w2 F F' :=
  ⟨g.os.trans h.os, g.tape.trans h.tape, g.output.trans h.output, Nat.le_trans h.size g.size, fun i hi hn => (g.block i (Nat.lt_of_lt_of_le hi h.size) (fun e => by
    injection e with e
    subst e
    rcases hj with hj | hj
    · exact hn hj
    · omega)).trans (h.block i hi hn), fun i hi => by
    rcases h.sub i hi with h1 | h1
    · exact .inl h1
    · have := g.size; exact .inr ⟨h1.1, by omega⟩⟩
def frT19 (fb : Nat) (eb : Nat) (zb : Nat) (n : Nat) (cap : Nat) (q : Option Addr) (k : Int) (u : ByteArray) (t : ByteArray) (r : ByteArray) (v0 : ByteArray) (pb : ByteArray) (p8 : Nat) (g6 : Nat → Value) (mn : Nat) (key : ByteArray) (g12 : Nat → Value) (g16 : Nat → Value) (g : Nat → Value) : Act := { tmps := #[.pointer (some ⟨fb, 0, none⟩), .agg #[.int .i64 k, .string u, .string t, .string r, .string v0], undef, .pointer (some ⟨eb, 0, none⟩), .pointer (some ⟨zb, 0, none⟩), .nilIface, .string pb, .nilIface, .pointer (some ⟨p8, 0, none⟩), undef, .int .i64 mn, .string key, .nilIface, .tuple #[.string pb, .nilIface], .agg #[.int .i64 k, .string u, .string t, .string r, .string v0], .tuple #[.string pb, .nilIface], .string pb, .nilIface, .bool false, .nilIface, .bool false, undef, undef, .bool false, .pointer (some ⟨fb, 0, none⟩), .pointer (some ⟨fb, 0, none⟩), .pointer (some ⟨fb, 1, none⟩), .slice q n cap, .int .i64 n, .bool false, undef, undef, g6 32, g6 33, g6 34, g6 35, g6 36, g6 37, g6 38, g6 39, g6 40, g6 41, g6 42, .pointer (some ⟨eb, 0, none⟩), .int .i64 k, .bool false, undef, undef, undef, undef, undef, undef, undef, undef, undef, undef, undef, undef, undef, g12 59, g12 60, g12 61, g12 62, g12 63, g12 64, g12 65, g12 66, g12 67, g12 68, g12 69, .nilIface, .bool false, undef, undef, .int .i64 mn, .pointer (some ⟨p8, 2, none⟩), g16 76, g16 77, g16 78, g16 79, g16 80, g16 81, g16 82, g16 83, g16 84, g16 85, g16 86, .nilIface, .bool false, undef, undef, g 91, g 92, g 93, g 94, g 95, g 96, g 97, g 98, g 99, g 100, g 101, undef], defers := [] }
def dstT19 (i : Nat) : Nat := ([91, 92, 93, 94, 95, 96, 97, 98, 99, 100, 101, 1011] : List Nat).getD i (2000 + i)
def laysT19 (fb : Nat) (n : Nat) (u : ByteArray) (mn : Nat) (hd : ByteArray) (body : ByteArray) (q4 : Option Addr) (cap4 : Nat) (Lr : List Rec) (m7 : Nat) (j : Nat) (v : Value) (w : World) : Prop :=
  match j with
  | 0 => v = .pointer (some ⟨fb, 0, none⟩)
  | 1 => v = .pointer (some ⟨fb, 0, none⟩)
  | 2 => v = .pointer (some ⟨fb, 0, none⟩)
  | 3 => v = .pointer (some ⟨fb, 1, none⟩)
  | 4 => v = .slice q4 n cap4
  | 5 => v = .slice q4 n n
  | 6 => v = .agg #[.int .i64 ((n : Int) + 1), .string u, .int .i64 mn, .string hd, .string body]
  | 7 => ∃ p, v = .slice (some ⟨p, 0, none⟩) 1 1 ∧ fb < p ∧ w.heap[p]? = some (.cells #[.int .i64 ((n : Int) + 1), .string u, .int .i64 mn, .string hd, .string body] 108 (0, 0))
  | 8 => ∃ base, fb < base ∧ m7 ≤ base ∧ ownsRl w base v Lr
  | 9 => v = .pointer (some ⟨fb, 0, none⟩)
  | 10 => v = .pointer (some ⟨fb, 1, none⟩)
  | _ => True
theorem laysT19_kept {fb : Nat} {n : Nat} {u : ByteArray} {mn : Nat} {hd : ByteArray} {body : ByteArray} {q4 : Option Addr} {cap4 : Nat} {Lr : List Rec} {m7 : Nat} (j : Nat) (v : Value) (w w' : World) (h : w.grownBy w' (some fb)) (hr : laysT19 fb n u mn hd body q4 cap4 Lr m7 j v w) : laysT19 fb n u mn hd body q4 cap4 Lr m7 j v w' := by
  unfold laysT19 at hr ⊢
  split at hr <;> first | exact hr | (obtain ⟨p, h1, h2, h3⟩ := hr; exact ⟨p, h1, h2, (h.block _ (lt_of_heap h3) (by intro e; injection e with e; omega)).trans h3⟩) | (obtain ⟨b, h1, h2, h3⟩ := hr; exact ⟨b, h1, h2, h3.kept h (by intro g hg e; injection e with e; have := (h3.base hg).1; omega)⟩)

/-- What a Tell that succeeds leaves. -/
def TellPost (e : Ev) (w : World) (V R : Blk) (fb vb n : Nat) (sec : ByteArray) (many : ByteArray → Nat) (has : ByteArray → Bool) (L : List Rec) (r : Ending) (w' : World) : Prop :=
  r = .returned (.tuple #[.agg (recV (toldR sec many has L e)), .nilIface]) ∧ ∃ R', vaultIn w' V vb (n + 2) sec (toldMany many has e) (toldHas has e) ∧ feedIn w' R' fb vb (L ++ [toldR sec many has L e]) ∧ step w w' (fun i => V i ∨ R i) (fun i => V i ∨ R' i) ∧ ∀ i, R' i → R i ∨ w.heap.size ≤ i
/-- Events and records, where they were laid. -/
theorem two_new (w : World) (x y : Obj) : ((w.alloc x).alloc y).heap[w.heap.size]? = some x ∧ ((w.alloc x).alloc y).heap[w.heap.size + 1]? = some y ∧ ((w.alloc x).alloc y).heap.size = w.heap.size + 2 := by
  have e : (w.alloc x).heap.size = w.heap.size + 1 := by simp
  refine ⟨(heap_alloc_old _ _ (by simp)).trans (heap_alloc_at w x), ?_, by simp⟩
  have := heap_alloc_at (w.alloc x) y
  rw [e] at this; exact this
set_option maxRecDepth 100000 in
set_option maxHeartbeats 4000000 in
theorem tell_put (e : Ev) (w : World) (V R : Blk) (fb vb n : Nat) (sec : ByteArray) (many : ByteArray → Nat) (has : ByteArray → Bool) (L : List Rec) (hv : vaultIn w V vb n sec many has) (hf : feedIn w R fb vb L) (ha : apart V R) (hG : Glob w (fun i => V i ∨ R i))
    (hr : rightE okV e = true) (hk : e.kind ≠ 3) (hz : e.subject.size ≤ 1048576 ∧ e.table.size ≤ 1048576 ∧ e.row.size ≤ 1048576) (hvz : e.value.size ≤ 1048576) (hsec : sec.size ≤ 1048576) (hn : n ≤ 1000000) (hm : many e.subject < 1000000) (hL : L.length < 100) :
    Calls Tryz.prog 122 #[.pointer (some ⟨fb, 0, none⟩), .agg (evV e)] w (TellPost e w V R fb vb n sec many has L) := by
  have PR := fun w h => print_any e w hz hvz h
  rw [hr, if_pos rfl] at PR
  rw [if_pos rfl] at PR
  have HF := Lib.hid hf
  have HV := Lib.hid hv
  have GG := Lib.hid hG
  have AP := Lib.hid ha
  have HR := Lib.hid hr
  have HK := Lib.hid hk
  have hk3 : (e.kind == 3) = false := by simp [hk]
  have hl1 : ((L.length : Int) == 100) = false := by simp; omega
  clear hf hv hG ha hr hk
  generalize ePb : (⟨(printL e).toArray⟩ : ByteArray) = pb at PR
  have EPb := Lib.hid ePb
  clear ePb
  have H2 := two_new w (.cells (evV e) 155) (.cells (recV zeroR) 108)
  have X2 := Lib.hid (ext_alloc (.cells (recV zeroR) 108) (ext_alloc (.cells (evV e) 155) (ext_refl w)))
  have HE := Lib.hid H2.1
  have HZ := Lib.hid H2.2.1
  have SZ := Lib.hid H2.2.2
  clear H2
  have HP : Hid (∀ r w', (r = .returned (.tuple #[.agg (recV (toldR sec many has L e)), .nilIface]) ∧ ∃ R', vaultIn w' V vb (n + 2) sec (toldMany many has e) (toldHas has e) ∧ feedIn w' R' fb vb (L ++ [toldR sec many has L e]) ∧ step w w' (fun i => V i ∨ R i) (fun i => V i ∨ R' i) ∧ ∀ i, R' i → R i ∨ w.heap.size ≤ i) → TellPost e w V R fb vb n sec many has L r w') := Lib.hid fun _ _ h => h
  generalize hP : TellPost e w V R fb vb n sec many has L = P at HP ⊢
  clear hP
  unfold evV at PR HE HZ X2 SZ ⊢
  unfold recV zeroR at HZ HE X2 SZ
  dsimp only at HE HZ X2 SZ
  obtain ⟨k, u, t, r, v⟩ := e
  dsimp only at PR HK hz hvz hm HE HZ X2 SZ hk3 ⊢
  go_enter Tryz.func122, Tryz.ntmps122
  go_wp2_with fail
  generalize (w.alloc (.cells #[.int .i64 k, .string u, .string t, .string r, .string v] 155)).alloc (.cells #[.int .i64 0, .string ⟨#[]⟩, .int .i64 0, .string ⟨#[]⟩, .string ⟨#[]⟩] 108) = w1 at HE HZ SZ X2 ⊢
  refine (PR _ (GG.out.ext X2.out).words).mono ?_
  rintro _ w2 ⟨rfl, hx⟩
  have X3 := Lib.hid (ext_trans X2.out hx)
  have E3 := Lib.hid (((ext_iff.1 hx).block _ (lt_of_heap HE.out)).trans HE.out)
  have Z3 := Lib.hid (((ext_iff.1 hx).block _ (lt_of_heap HZ.out)).trans HZ.out)
  have S3 := Lib.hid (Nat.le_trans (Nat.le_of_eq SZ.out.symm) (ext_iff.1 hx).size)
  have F3 := Lib.hid (HF.out.ext X3.out)
  have V3 := Lib.hid (HV.out.ext X3.out)
  have G3 := Lib.hid (GG.out.ext X3.out)
  have HVL := Lib.hid (HV.out.lt)
  have HRL := Lib.hid (HF.out.lt)
  clear hx X2 HE HZ SZ PR HF HV
  obtain ⟨q, cap, h1, h2, h3, h4⟩ := F3.out.at_
  have B3 := Lib.hid h1
  obtain ⟨c0, c1⟩ := two_at h1
  have lf := lt_of_heap h1
  clear h1 h2 h3 h4
  go_wp2_with fail
  have HD : ∀ W, Below w2.heap.size w2 W → Calls Tryz.prog 149 #[.pointer (some ⟨fb, 0, none⟩)] W fun e w' => e = .returned (.string (headR L)) ∧ ∃ x, w' = ext W x := fun W hB => fhead_any W R fb vb L (F3.out.ext (ext_of hB)) (G3.out.ext (ext_of hB)).rounds
  have HD := Lib.hid HD
  have le3 := Lib.hid (lt_of_heap E3.out)
  have hN := hL
  generalize hnl : L.length = n0 at *
  generalize hhd : headR L = hd at HD
  have HHD := Lib.hid hhd
  clear hhd
  generalize hebE : w.heap.size = eb at *
  generalize hzbE : eb + 1 = zb at *
  have HD := HD.out
  have le3 := le3.out
  clear c0 c1
  refine wp_region_slots (frT6 fb eb zb n0 cap q k u t r v pb) dstT6 (fun _ => undef) (laysT6 fb eb n0 cap q u hd) (fun L g w => newR w2 #[.int .i64 0, .string ⟨#[]⟩, .int .i64 0, .string ⟨#[]⟩, .string ⟨#[]⟩] #[.int .i64 ((n0 : Int) + 1), .string u, .int .i64 0, .string hd, .string ⟨#[]⟩] (L 11) (L 12) (g 8) w) (fun w w' => True) (by kernel_rfl) (by kernel_rfl) rfl ?_ (by kernel_rfl) (newR.start _ _ _ _) ?_ ?_
  · exact fun _ _ _ _ _ h => h
  · refine ⟨?_, ?_, ?_, ?_, ?_, ?_, ?_, ?_, ?_, ?_, ?_, ?_, ?_, trivial⟩
    all_goals (intro L gs w1 hLi hdeps hR hC; refine ends_of fun Q hQ => ?_)
    · have HQ := fun (a' : Act) (va : Value) (w' : World) (h1 : a' = frT6 fb eb zb n0 cap q k u t r v pb (upd1 gs 32 va)) h2 (h3 : laysT6 fb eb n0 cap q u hd 0 va w') h4 => hQ.out a' w' ⟨va, h1, h2, h3, h4⟩
      unfold frT6
      go_wp2_with fail
      exact HQ _ (.pointer (some ⟨fb, 0, none⟩)) _ (by simp only [frT6, upd1, Nat.reduceEqDiff, reduceIte]) trivial rfl hC
    · have HQ := fun (a' : Act) (va : Value) (w' : World) (h1 : a' = frT6 fb eb zb n0 cap q k u t r v pb (upd1 gs 33 va)) h2 (h3 : laysT6 fb eb n0 cap q u hd 1 va w') h4 => hQ.out a' w' ⟨va, h1, h2, h3, h4⟩
      have r0 : gs 32 = .pointer (some ⟨fb, 0, none⟩) := hR 0 (hdeps ⟨0, .data⟩ (by simp) rfl)
      unfold frT6
      go_wp2_with fail
      exact HQ _ (.pointer (some ⟨fb, 0, none⟩)) _ (by simp only [frT6, upd1, r0, Nat.reduceEqDiff, reduceIte]) trivial rfl hC
    · have HQ := fun (a' : Act) (va : Value) (w' : World) (h1 : a' = frT6 fb eb zb n0 cap q k u t r v pb (upd1 gs 34 va)) h2 (h3 : laysT6 fb eb n0 cap q u hd 2 va w') h4 => hQ.out a' w' ⟨va, h1, h2, h3, h4⟩
      have r1 : gs 33 = .pointer (some ⟨fb, 0, none⟩) := hR 1 (hdeps ⟨1, .data⟩ (by simp) rfl)
      unfold frT6
      go_wp2_with fail
      exact HQ _ (.pointer (some ⟨fb, 1, none⟩)) _ (by simp only [frT6, upd1, r1, Nat.reduceEqDiff, reduceIte]) trivial rfl hC
    · have HQ := fun (a' : Act) (va : Value) (w' : World) (h1 : a' = frT6 fb eb zb n0 cap q k u t r v pb (upd1 gs 35 va)) h2 (h3 : laysT6 fb eb n0 cap q u hd 3 va w') h4 => hQ.out a' w' ⟨va, h1, h2, h3, h4⟩
      have r2 : gs 34 = .pointer (some ⟨fb, 1, none⟩) := hR 2 (hdeps ⟨2, .data⟩ (by simp) rfl)
      have b0 := (hC.1.block _ lf).trans B3.out
      obtain ⟨c0, c1⟩ := two_at b0
      have lw1 : fb < w1.heap.size := lt_of_heap b0
      unfold frT6
      go_wp2_with fail
      exact HQ _ (.slice q n0 cap) _ (by simp only [frT6, upd1, r2, Nat.reduceEqDiff, reduceIte]) trivial rfl hC
    · have HQ := fun (a' : Act) (va : Value) (w' : World) (h1 : a' = frT6 fb eb zb n0 cap q k u t r v pb (upd1 gs 36 va)) h2 (h3 : laysT6 fb eb n0 cap q u hd 4 va w') h4 => hQ.out a' w' ⟨va, h1, h2, h3, h4⟩
      have r3 : gs 35 = .slice q n0 cap := hR 3 (hdeps ⟨3, .data⟩ (by simp) rfl)
      unfold frT6
      go_wp2_with fail
      exact HQ _ (.int .i64 n0) _ (by simp only [frT6, upd1, r3, Nat.reduceEqDiff, reduceIte]) trivial rfl hC
    · have HQ := fun (a' : Act) (va : Value) (w' : World) (h1 : a' = frT6 fb eb zb n0 cap q k u t r v pb (upd1 gs 37 va)) h2 (h3 : laysT6 fb eb n0 cap q u hd 5 va w') h4 => hQ.out a' w' ⟨va, h1, h2, h3, h4⟩
      have r4 : gs 36 = .int .i64 n0 := hR 4 (hdeps ⟨4, .data⟩ (by simp) rfl)
      unfold frT6
      go_wp2_with fail
      exact HQ _ (.int .i64 ((n0 : Int) + 1)) _ (by simp only [frT6, upd1, r4, Nat.reduceEqDiff, reduceIte]) trivial rfl hC
    · have HQ := fun (a' : Act) (va : Value) (w' : World) (h1 : a' = frT6 fb eb zb n0 cap q k u t r v pb (upd1 gs 38 va)) h2 (h3 : laysT6 fb eb n0 cap q u hd 6 va w') h4 => hQ.out a' w' ⟨va, h1, h2, h3, h4⟩
      unfold frT6
      go_wp2_with fail
      exact HQ _ (.pointer (some ⟨eb, 1, none⟩)) _ (by simp only [frT6, upd1, Nat.reduceEqDiff, reduceIte]) trivial rfl hC
    · have HQ := fun (a' : Act) (va : Value) (w' : World) (h1 : a' = frT6 fb eb zb n0 cap q k u t r v pb (upd1 gs 39 va)) h2 (h3 : laysT6 fb eb n0 cap q u hd 7 va w') h4 => hQ.out a' w' ⟨va, h1, h2, h3, h4⟩
      have r6 : gs 38 = .pointer (some ⟨eb, 1, none⟩) := hR 6 (hdeps ⟨6, .data⟩ (by simp) rfl)
      have b0 := (hC.1.block _ le3).trans E3.out
      have c1 := (ev5 (e := ⟨k, u, t, r, v⟩) b0).2.1
      dsimp only at c1
      have lw1 : eb < w1.heap.size := lt_of_heap b0
      unfold frT6
      go_wp2_with fail
      exact HQ _ (.string u) _ (by simp only [frT6, upd1, r6, Nat.reduceEqDiff, reduceIte]) trivial rfl hC
    · have HQ := fun (a' : Act) (va : Value) (w' : World) (h1 : a' = frT6 fb eb zb n0 cap q k u t r v pb (upd1 gs 40 va)) h2 (h3 : laysT6 fb eb n0 cap q u hd 8 va w') h4 => hQ.out a' w' ⟨va, h1, h2, h3, h4⟩
      unfold frT6
      go_wp2_with fail
      exact HQ _ (.pointer (some ⟨fb, 0, none⟩)) _ (by simp only [frT6, upd1, Nat.reduceEqDiff, reduceIte]) trivial rfl hC
    · have HQ := fun (a' : Act) (va : Value) (w' : World) (h1 : a' = frT6 fb eb zb n0 cap q k u t r v pb (upd1 gs 41 va)) h2 (h3 : laysT6 fb eb n0 cap q u hd 9 va w') h4 => hQ.out a' w' ⟨va, h1, h2, h3, h4⟩
      have r8 : gs 40 = .pointer (some ⟨fb, 0, none⟩) := hR 8 (hdeps ⟨8, .data⟩ (by simp) rfl)
      unfold frT6
      go_wp2_with fail
      refine (HD w1 hC.1).mono ?_
      rintro _ w4 ⟨rfl, hx⟩
      go_wp2_with fail
      exact HQ _ (.string hd) _ (by simp only [frT6, upd1, r8, Nat.reduceEqDiff, reduceIte]) trivial rfl (newR.ext hC hx)
    · have HQ := fun (a' : Act) (va : Value) (w' : World) (h1 : a' = frT6 fb eb zb n0 cap q k u t r v pb (upd1 gs 42 va)) h2 (h3 : laysT6 fb eb n0 cap q u hd 10 va w') h4 => hQ.out a' w' ⟨va, h1, h2, h3, h4⟩
      have r5 : gs 37 = .int .i64 ((n0 : Int) + 1) := hR 5 (hdeps ⟨5, .data⟩ (by simp) rfl)
      have r7 : gs 39 = .string u := hR 7 (hdeps ⟨7, .data⟩ (by simp) rfl)
      have r9 : gs 41 = .string hd := hR 9 (hdeps ⟨9, .data⟩ (by simp) rfl)
      unfold frT6
      go_wp2_with fail
      exact HQ _ (.agg #[.int .i64 ((n0 : Int) + 1), .string u, .int .i64 0, .string hd, .string ⟨#[]⟩]) _ (by simp only [frT6, upd1, r5, r7, r9, Nat.reduceEqDiff, reduceIte]) trivial rfl hC
    · have HQ := fun (a' : Act) (va : Value) (w' : World) (h1 : a' = frT6 fb eb zb n0 cap q k u t r v pb (upd1 gs 8 va)) h2 (h3 : laysT6 fb eb n0 cap q u hd 11 va w') h4 => hQ.out a' w' ⟨va, h1, h2, h3, h4⟩
      unfold frT6
      go_wp2_with fail
      exact HQ _ (.pointer (some ⟨w1.heap.size, 0, none⟩)) _ (by simp only [frT6, upd1, Nat.reduceEqDiff, reduceIte]) trivial ⟨_, rfl⟩ (newR.made hC hLi)
    · have HQ := fun (a' : Act) (va : Value) (w' : World) (h1 : a' = frT6 fb eb zb n0 cap q k u t r v pb (upd1 gs 1012 va)) h2 (h3 : laysT6 fb eb n0 cap q u hd 12 va w') h4 => hQ.out a' w' ⟨va, h1, h2, h3, h4⟩
      have r10 : gs 42 = .agg #[.int .i64 ((n0 : Int) + 1), .string u, .int .i64 0, .string hd, .string ⟨#[]⟩] := hR 10 (hdeps ⟨10, .data⟩ (by simp) rfl)
      have r11 := hR 11 (hdeps ⟨11, .data⟩ (by simp) rfl)
      obtain ⟨p, hp⟩ := r11
      change gs 8 = _ at hp
      have l11 : L 11 = true := hdeps ⟨11, .data⟩ (by simp) rfl
      obtain ⟨p', hp', hpl, hpb⟩ := hC.2.2 l11
      rw [hp] at hp'
      injection hp' with hp'
      injection hp' with hp'
      injection hp' with hp'
      subst hp'
      have hLi' : L 12 = false := hLi
      rw [hLi'] at hpb
      have hpb : w1.heap[p]? = some (.cells #[.int .i64 0, .string ⟨#[]⟩, .int .i64 0, .string ⟨#[]⟩, .string ⟨#[]⟩] 108 (0, 0)) := hpb
      have lw1 := lt_of_heap hpb
      have ff := free_of_heap hpb
      have HPB := Lib.hid hpb
      obtain ⟨z0, z1, z2, z3, z4⟩ := rec_cells (r := ⟨0, ⟨#[]⟩, 0, ⟨#[]⟩, ⟨#[]⟩⟩) hpb
      dsimp only at z0 z1 z2 z3 z4
      clear hpb
      unfold frT6
      go_wp2_with fail
      exact HQ _ undef _ (by simp only [frT6, upd1, r10, hp, Nat.reduceEqDiff, reduceIte]) trivial trivial (newR.done hC l11 hp HPB.out)
  intro L6 g6 w4 hall hR hC

  obtain ⟨p8, hp8, hpl, hpb⟩ := hC.2.2 (hall 11 (by decide))
  have P8 := Lib.hid hpl
  have LE2 := Lib.hid le3
  rw [hall 12 (by decide), if_pos rfl] at hpb
  have HPB := Lib.hid hpb
  have B4 := Lib.hid hC.1
  have F4 := Lib.hid (F3.out.ext (ext_of hC.1))
  have V4 := Lib.hid (V3.out.ext (ext_of hC.1))
  have G4 := Lib.hid (G3.out.ext (ext_of hC.1))
  have E4 := Lib.hid ((hC.1.block _ le3).trans E3.out)
  have Z4 := Lib.hid ((hC.1.block _ (lt_of_heap Z3.out)).trans Z3.out)
  have GV := Lib.hid (G4.out.sub (G := V) fun i h => .inl h)
  have X4 := Lib.hid (ext_trans X3.out (ext_of hC.1))
  clear hC hall hR hpb HD le3 lf F3 V3 G3 X3 E3 Z3 B3 hpl
  unfold frT6
  rw [hp8]
  clear hp8
  obtain ⟨c0, c1, c2, c3, c4⟩ := ev5 (e := ⟨k, u, t, r, v⟩) E4.out
  dsimp only at c0 c1 c2 c3 c4
  have le4 := lt_of_heap E4.out
  obtain ⟨q4, cap4, h1, h2, h3, h4⟩ := F4.out.at_
  obtain ⟨d0, d1⟩ := two_at h1
  have lf := lt_of_heap h1
  have h1' := h1
  have VL := Lib.hid (show ∀ i, V i → i < eb from HVL.out)
  have MK := fun W hV hG => vmake_in u W V vb n sec many has hV hG (by have := HR.out; unfold rightE at this; rw [Bool.and_eq_true] at this; exact this.1) hsec hn hm
  have MK := Lib.hid MK
  clear h1 h2 h3 h4
  have hfbV : ¬ V fb := fun h => AP.out _ h F4.out.fb_
  have hebV : ¬ V eb := fun h => Nat.lt_irrefl _ (VL.out _ h)
  have FB4 := Lib.hid (show w4.heap[fb]? = some (.cells #[.pointer (some ⟨vb, 0, none⟩), .slice q4 L.length cap4] 90 (0, 0)) from h1')
  go_wp2_with fail
  generalize hkk : keyS sec u (makeN many has u) = key at MK
  have HKEY := Lib.hid hkk
  clear hkk
  generalize hmn : makeN many has u = mn at MK
  have HMN := Lib.hid hmn
  clear hmn
  have MK := MK.out
  clear d0 d1 c0 c1 c2 c3 c4
  refine wp_region_slots (frT12 fb eb zb n0 cap q k u t r v pb p8 g6) dstT12 (fun _ => undef) (laysT12 fb eb u vb mn key) (fun L g w => madeV V vb n sec many has (updS many u mn) (updS has u true) w4 (L 6) w) (fun w w' => True) (by kernel_rfl) (by kernel_rfl) rfl ?_ (by kernel_rfl) (madeV.start V4.out) ?_ ?_
  · exact fun _ _ _ _ _ h => h
  · refine ⟨?_, ?_, ?_, ?_, ?_, ?_, ?_, ?_, ?_, ?_, ?_, ?_, ?_, ?_, trivial⟩
    all_goals (intro L gs w1 hLi hdeps hR hC; refine ends_of fun Q hQ => ?_)
    · have HQ := fun (a' : Act) (va : Value) (w' : World) (h1 : a' = frT12 fb eb zb n0 cap q k u t r v pb p8 g6 (upd1 gs 60 va)) h2 (h3 : laysT12 fb eb u vb mn key 0 va w') h4 => hQ.out a' w' ⟨va, h1, h2, h3, h4⟩
      unfold frT12
      go_wp2_with fail
      exact HQ _ (.pointer (some ⟨fb, 0, none⟩)) _ (by simp only [frT12, upd1, Nat.reduceEqDiff, reduceIte]) trivial rfl hC
    · have HQ := fun (a' : Act) (va : Value) (w' : World) (h1 : a' = frT12 fb eb zb n0 cap q k u t r v pb p8 g6 (upd1 gs 61 va)) h2 (h3 : laysT12 fb eb u vb mn key 1 va w') h4 => hQ.out a' w' ⟨va, h1, h2, h3, h4⟩
      have r0 : gs 60 = .pointer (some ⟨fb, 0, none⟩) := hR 0 (hdeps ⟨0, .data⟩ (by simp) rfl)
      unfold frT12
      go_wp2_with fail
      exact HQ _ (.pointer (some ⟨fb, 0, none⟩)) _ (by simp only [frT12, upd1, r0, Nat.reduceEqDiff, reduceIte]) trivial rfl hC
    · have HQ := fun (a' : Act) (va : Value) (w' : World) (h1 : a' = frT12 fb eb zb n0 cap q k u t r v pb p8 g6 (upd1 gs 62 va)) h2 (h3 : laysT12 fb eb u vb mn key 2 va w') h4 => hQ.out a' w' ⟨va, h1, h2, h3, h4⟩
      have r1 : gs 61 = .pointer (some ⟨fb, 0, none⟩) := hR 1 (hdeps ⟨1, .data⟩ (by simp) rfl)
      unfold frT12
      go_wp2_with fail
      exact HQ _ (.pointer (some ⟨fb, 0, none⟩)) _ (by simp only [frT12, upd1, r1, Nat.reduceEqDiff, reduceIte]) trivial rfl hC
    · have HQ := fun (a' : Act) (va : Value) (w' : World) (h1 : a' = frT12 fb eb zb n0 cap q k u t r v pb p8 g6 (upd1 gs 63 va)) h2 (h3 : laysT12 fb eb u vb mn key 3 va w') h4 => hQ.out a' w' ⟨va, h1, h2, h3, h4⟩
      have r2 : gs 62 = .pointer (some ⟨fb, 0, none⟩) := hR 2 (hdeps ⟨2, .data⟩ (by simp) rfl)
      have b0 := (hC.1.keep lf hfbV).1.trans FB4.out
      obtain ⟨c0, c1⟩ := two_at b0
      have lw1 : fb < w1.heap.size := lt_of_heap b0
      unfold frT12
      go_wp2_with fail
      exact HQ _ (.pointer (some ⟨vb, 0, none⟩)) _ (by simp only [frT12, upd1, r2, Nat.reduceEqDiff, reduceIte]) trivial rfl hC
    · have HQ := fun (a' : Act) (va : Value) (w' : World) (h1 : a' = frT12 fb eb zb n0 cap q k u t r v pb p8 g6 (upd1 gs 64 va)) h2 (h3 : laysT12 fb eb u vb mn key 4 va w') h4 => hQ.out a' w' ⟨va, h1, h2, h3, h4⟩
      unfold frT12
      go_wp2_with fail
      exact HQ _ (.pointer (some ⟨eb, 1, none⟩)) _ (by simp only [frT12, upd1, Nat.reduceEqDiff, reduceIte]) trivial rfl hC
    · have HQ := fun (a' : Act) (va : Value) (w' : World) (h1 : a' = frT12 fb eb zb n0 cap q k u t r v pb p8 g6 (upd1 gs 65 va)) h2 (h3 : laysT12 fb eb u vb mn key 5 va w') h4 => hQ.out a' w' ⟨va, h1, h2, h3, h4⟩
      have r4 : gs 64 = .pointer (some ⟨eb, 1, none⟩) := hR 4 (hdeps ⟨4, .data⟩ (by simp) rfl)
      have b0 := (hC.1.keep le4 hebV).1.trans E4.out
      have c1 := (ev5 (e := ⟨k, u, t, r, v⟩) b0).2.1
      dsimp only at c1
      have lw1 : eb < w1.heap.size := lt_of_heap b0
      unfold frT12
      go_wp2_with fail
      exact HQ _ (.string u) _ (by simp only [frT12, upd1, r4, Nat.reduceEqDiff, reduceIte]) trivial rfl hC
    · have HQ := fun (a' : Act) (va : Value) (w' : World) (h1 : a' = frT12 fb eb zb n0 cap q k u t r v pb p8 g6 (upd1 gs 66 va)) h2 (h3 : laysT12 fb eb u vb mn key 6 va w') h4 => hQ.out a' w' ⟨va, h1, h2, h3, h4⟩
      have r3 : gs 63 = .pointer (some ⟨vb, 0, none⟩) := hR 3 (hdeps ⟨3, .data⟩ (by simp) rfl)
      have r5 : gs 65 = .string u := hR 5 (hdeps ⟨5, .data⟩ (by simp) rfl)
      have hLi : L 6 = false := hLi
      have hC2 := hC.2
      rw [hLi] at hC2
      unfold frT12
      go_wp2_with fail
      refine (MK w1 hC2 (GV.out.step hC.1)).mono ?_
      rintro _ wn ⟨rfl, hv, hs⟩
      go_wp2_with fail
      exact HQ _ (.tuple #[.int .i64 mn, .string key, .nilIface]) _ (by simp only [frT12, upd1, r3, r5, Nat.reduceEqDiff, reduceIte]) trivial rfl ⟨hC.1.trans hs, hv⟩
    · have HQ := fun (a' : Act) (va : Value) (w' : World) (h1 : a' = frT12 fb eb zb n0 cap q k u t r v pb p8 g6 (upd1 gs 59 va)) h2 (h3 : laysT12 fb eb u vb mn key 7 va w') h4 => hQ.out a' w' ⟨va, h1, h2, h3, h4⟩
      have r6 : gs 66 = .tuple #[.int .i64 mn, .string key, .nilIface] := hR 6 (hdeps ⟨6, .data⟩ (by simp) rfl)
      unfold frT12
      go_wp2_with fail
      exact HQ _ (.tuple #[.int .i64 mn, .string key, .nilIface]) _ (by simp only [frT12, upd1, r6, Nat.reduceEqDiff, reduceIte]) trivial rfl hC
    · have HQ := fun (a' : Act) (va : Value) (w' : World) (h1 : a' = frT12 fb eb zb n0 cap q k u t r v pb p8 g6 (upd1 gs 67 va)) h2 (h3 : laysT12 fb eb u vb mn key 8 va w') h4 => hQ.out a' w' ⟨va, h1, h2, h3, h4⟩
      have r7 : gs 59 = .tuple #[.int .i64 mn, .string key, .nilIface] := hR 7 (hdeps ⟨7, .data⟩ (by simp) rfl)
      unfold frT12
      go_wp2_with fail
      exact HQ _ (.int .i64 mn) _ (by simp only [frT12, upd1, r7, Nat.reduceEqDiff, reduceIte]) trivial rfl hC
    · have HQ := fun (a' : Act) (va : Value) (w' : World) (h1 : a' = frT12 fb eb zb n0 cap q k u t r v pb p8 g6 (upd1 gs 68 va)) h2 (h3 : laysT12 fb eb u vb mn key 9 va w') h4 => hQ.out a' w' ⟨va, h1, h2, h3, h4⟩
      have r7 : gs 59 = .tuple #[.int .i64 mn, .string key, .nilIface] := hR 7 (hdeps ⟨7, .data⟩ (by simp) rfl)
      unfold frT12
      go_wp2_with fail
      exact HQ _ (.string key) _ (by simp only [frT12, upd1, r7, Nat.reduceEqDiff, reduceIte]) trivial rfl hC
    · have HQ := fun (a' : Act) (va : Value) (w' : World) (h1 : a' = frT12 fb eb zb n0 cap q k u t r v pb p8 g6 (upd1 gs 69 va)) h2 (h3 : laysT12 fb eb u vb mn key 10 va w') h4 => hQ.out a' w' ⟨va, h1, h2, h3, h4⟩
      have r7 : gs 59 = .tuple #[.int .i64 mn, .string key, .nilIface] := hR 7 (hdeps ⟨7, .data⟩ (by simp) rfl)
      unfold frT12
      go_wp2_with fail
      exact HQ _ (.nilIface) _ (by simp only [frT12, upd1, r7, Nat.reduceEqDiff, reduceIte]) trivial rfl hC
    · have HQ := fun (a' : Act) (va : Value) (w' : World) (h1 : a' = frT12 fb eb zb n0 cap q k u t r v pb p8 g6 (upd1 gs 10 va)) h2 (h3 : laysT12 fb eb u vb mn key 11 va w') h4 => hQ.out a' w' ⟨va, h1, h2, h3, h4⟩
      have r8 : gs 67 = .int .i64 mn := hR 8 (hdeps ⟨8, .data⟩ (by simp) rfl)
      unfold frT12
      go_wp2_with fail
      exact HQ _ (.int .i64 mn) _ (by simp only [frT12, upd1, r8, Nat.reduceEqDiff, reduceIte]) trivial rfl hC
    · have HQ := fun (a' : Act) (va : Value) (w' : World) (h1 : a' = frT12 fb eb zb n0 cap q k u t r v pb p8 g6 (upd1 gs 11 va)) h2 (h3 : laysT12 fb eb u vb mn key 12 va w') h4 => hQ.out a' w' ⟨va, h1, h2, h3, h4⟩
      have r9 : gs 68 = .string key := hR 9 (hdeps ⟨9, .data⟩ (by simp) rfl)
      unfold frT12
      go_wp2_with fail
      exact HQ _ (.string key) _ (by simp only [frT12, upd1, r9, Nat.reduceEqDiff, reduceIte]) trivial rfl hC
    · have HQ := fun (a' : Act) (va : Value) (w' : World) (h1 : a' = frT12 fb eb zb n0 cap q k u t r v pb p8 g6 (upd1 gs 12 va)) h2 (h3 : laysT12 fb eb u vb mn key 13 va w') h4 => hQ.out a' w' ⟨va, h1, h2, h3, h4⟩
      have r10 : gs 69 = .nilIface := hR 10 (hdeps ⟨10, .data⟩ (by simp) rfl)
      unfold frT12
      go_wp2_with fail
      exact HQ _ (.nilIface) _ (by simp only [frT12, upd1, r10, Nat.reduceEqDiff, reduceIte]) trivial rfl hC
  intro L12 g12 w5 hall hR hC

  have s10 : g12 10 = .int .i64 mn := hR 11 (by decide)
  have s11 : g12 11 = .string key := hR 12 (by decide)
  have s12 : g12 12 = .nilIface := hR 13 (by decide)
  have hC1 := hC.1
  have V5 := hC.2
  rw [hall 6 (by decide), if_pos rfl] at V5
  have V5 := Lib.hid V5
  have hp8V : ¬ V p8 := fun h => by have := VL.out _ h; have := LE2.out; have := P8.out; omega
  have hzbV : ¬ V zb := fun h => by have := VL.out _ h; omega
  have G5 := Lib.hid (hC1.keep (lt_of_heap HPB.out) hp8V |>.1)
  have HP5 := Lib.hid ((hC1.keep (lt_of_heap HPB.out) hp8V).1.trans HPB.out)
  have E5 := Lib.hid ((hC1.keep (lt_of_heap E4.out) hebV).1.trans E4.out)
  have Z5 := Lib.hid ((hC1.keep (lt_of_heap Z4.out) hzbV).1.trans Z4.out)
  have F5 := Lib.hid (F4.out.step hC1 AP.out)
  have ST5 := Lib.hid hC1
  have HR5 := Lib.hid (GV.out.step hC1)
  clear hC hC1 hall hR HPB E4 Z4 F4 V4 GV G5 FB4 lf le4 MK
  unfold frT12
  rw [s10, s11, s12]
  clear s10 s11 s12
  obtain ⟨z0, z1, z2, z3, z4⟩ := rec_cells (r := ⟨(n0 : Int) + 1, u, 0, hd, ⟨#[]⟩⟩) HP5.out
  dsimp only at z0 z1 z2 z3 z4
  have lp := lt_of_heap HP5.out
  have ff := free_of_heap HP5.out
  have HP6 : Hid ((w5.setCell ⟨p8, 2, none⟩ (.int .i64 mn)).heap[p8]? = some (.cells #[.int .i64 ((n0 : Int) + 1), .string u, .int .i64 mn, .string hd, .string ⟨#[]⟩] 108 (0, 0))) := Lib.hid (heap_setCell (i := 2) HP5.out _)
  have GP6 := Lib.hid (grown_setCell w5 p8 2 (.int .i64 mn))
  go_wp2_with fail
  have hrounds : 0 ≠ p8 := fun e => by have := (GG.out.lts).1; have := LE2.out; have := P8.out; rw [e] at *; omega
  have R6 : Hid (Rounds (w5.setCell ⟨p8, 2, none⟩ (.int .i64 mn))) := Lib.hid (Rounds.grown HR5.out.rounds GP6.out hrounds)
  have B56 := Lib.hid (show w5.heap.size = (w5.setCell ⟨p8, 2, none⟩ (.int .i64 mn)).heap.size by simp)
  generalize (w5.setCell ⟨p8, 2, none⟩ (.int .i64 mn)) = w6 at HP6 GP6 R6 B56 ⊢
  clear z0 z1 z2 z3 z4 lp ff HP5
  have NN := fun W => nonce_any ⟨(n0 : Int) + 1, u, mn, hd, ⟨#[]⟩⟩ W
  have WW := fun W h => with_any ⟨(n0 : Int) + 1, u, mn, hd, ⟨#[]⟩⟩ W (by have := (print_short HR.out).2.2; have h16 := headR_size L; rw [HHD.out] at h16; dsimp only at *; omega) h
  have zn := nonceR_size ⟨(n0 : Int) + 1, u, mn, hd, ⟨#[]⟩⟩
  have zw := withR_size ⟨(n0 : Int) + 1, u, mn, hd, ⟨#[]⟩⟩
  generalize hnn : nonceR ⟨(n0 : Int) + 1, u, mn, hd, ⟨#[]⟩⟩ = nn at NN zn
  have HNN := Lib.hid hnn
  clear hnn
  generalize hww : withR ⟨(n0 : Int) + 1, u, mn, hd, ⟨#[]⟩⟩ = ww at WW zw
  have HWW := Lib.hid hww
  clear hww
  unfold recV at NN WW
  dsimp only at NN WW
  have zk : key.size = 32 := by rw [← HKEY.out]; exact keyS_size _ _ _
  have zp : pb.size ≤ 400 := by
    rw [← EPb.out]
    show (printL _).toArray.size ≤ 400
    rw [List.size_toArray]
    have := (print_short HR.out).1
    omega
  have SL := fun W h => seal_any key nn ww pb W zp zk zn (by omega) h
  clear zn zw zk zp
  generalize hbd : (⟨(sealB key nn ww pb).toArray⟩ : ByteArray) = body at SL
  have HBD := Lib.hid hbd
  clear hbd
  have RD : ∀ W, w6.grownBy W (some p8) → Rounds W := fun W hg => Rounds.grown R6.out hg hrounds
  refine wp_region_slots (frT16 fb eb zb n0 cap q k u t r v pb p8 g6 mn key g12) dstT16 (fun k => if k = 12 then .nilIface else undef) (laysT16 n0 u pb p8 mn key nn ww body hd) (fun L g w => heldR w6 p8 #[.int .i64 ((n0 : Int) + 1), .string u, .int .i64 mn, .string hd, .string ⟨#[]⟩] #[.int .i64 ((n0 : Int) + 1), .string u, .int .i64 mn, .string hd, .string body] (L 11) w ∧ (L 11 = true → L 1 = true ∧ L 3 = true)) (fun w w' => True) (by kernel_rfl) (by kernel_rfl) rfl ?_ (by kernel_rfl) ⟨⟨grown_drawn _ _ _, HP6.out⟩, fun h => by cases h⟩ ?_ ?_
  · exact fun _ _ _ _ _ h => h
  · refine ⟨?_, ?_, ?_, ?_, ?_, ?_, ?_, ?_, ?_, ?_, ?_, ?_, ?_, trivial⟩
    all_goals (intro L gs w1 hLi hdeps hR hC; refine ends_of fun Q hQ => ?_)
    · have HQ := fun (a' : Act) (va : Value) (w' : World) (h1 : a' = frT16 fb eb zb n0 cap q k u t r v pb p8 g6 mn key g12 (upd1 gs 77 va)) h2 (h3 : laysT16 n0 u pb p8 mn key nn ww body hd 0 va w') h4 => hQ.out a' w' ⟨va, h1, h2, h3, h4⟩
      unfold frT16
      go_wp2_with fail
      exact HQ _ (.string key) _ (by simp only [frT16, upd1, Nat.reduceEqDiff, reduceIte]) trivial rfl hC
    · have HQ := fun (a' : Act) (va : Value) (w' : World) (h1 : a' = frT16 fb eb zb n0 cap q k u t r v pb p8 g6 mn key g12 (upd1 gs 78 va)) h2 (h3 : laysT16 n0 u pb p8 mn key nn ww body hd 1 va w') h4 => hQ.out a' w' ⟨va, h1, h2, h3, h4⟩
      have n11 : L 11 = false := by cases h : L 11 with | false => rfl | true => exact absurd ((hC.2 h).1) (by rw [show L 1 = false from hLi]; simp)
      have b0 := hC.1.2
      rw [n11] at b0
      have b0 : w1.heap[p8]? = some (.cells #[.int .i64 ((n0 : Int) + 1), .string u, .int .i64 mn, .string hd, .string ⟨#[]⟩] 108 (0, 0)) := b0
      have lw1 := lt_of_heap b0
      obtain ⟨z0, z1, z2, z3, z4⟩ := rec_cells (r := ⟨(n0 : Int) + 1, u, mn, hd, ⟨#[]⟩⟩) b0
      dsimp only at z0 z1 z2 z3 z4
      unfold frT16
      go_wp2_with fail
      exact HQ _ (.agg #[.int .i64 ((n0 : Int) + 1), .string u, .int .i64 mn, .string hd, .string ⟨#[]⟩]) _ (by simp only [frT16, upd1, Nat.reduceEqDiff, reduceIte]) trivial rfl ⟨hC.1, fun h => ⟨rfl, (hC.2 h).2⟩⟩
    · have HQ := fun (a' : Act) (va : Value) (w' : World) (h1 : a' = frT16 fb eb zb n0 cap q k u t r v pb p8 g6 mn key g12 (upd1 gs 79 va)) h2 (h3 : laysT16 n0 u pb p8 mn key nn ww body hd 2 va w') h4 => hQ.out a' w' ⟨va, h1, h2, h3, h4⟩
      have r1 : gs 78 = .agg #[.int .i64 ((n0 : Int) + 1), .string u, .int .i64 mn, .string hd, .string ⟨#[]⟩] := hR 1 (hdeps ⟨1, .data⟩ (by simp) rfl)
      unfold frT16
      go_wp2_with fail
      refine (NN w1).mono ?_
      rintro _ wn ⟨rfl, hx⟩
      go_wp2_with fail
      exact HQ _ (.string nn) _ (by simp only [frT16, upd1, r1, Nat.reduceEqDiff, reduceIte]) trivial rfl ⟨hC.1.ext hx, hC.2⟩
    · have HQ := fun (a' : Act) (va : Value) (w' : World) (h1 : a' = frT16 fb eb zb n0 cap q k u t r v pb p8 g6 mn key g12 (upd1 gs 80 va)) h2 (h3 : laysT16 n0 u pb p8 mn key nn ww body hd 3 va w') h4 => hQ.out a' w' ⟨va, h1, h2, h3, h4⟩
      have n11 : L 11 = false := by cases h : L 11 with | false => rfl | true => exact absurd ((hC.2 h).2) (by rw [show L 3 = false from hLi]; simp)
      have b0 := hC.1.2
      rw [n11] at b0
      have b0 : w1.heap[p8]? = some (.cells #[.int .i64 ((n0 : Int) + 1), .string u, .int .i64 mn, .string hd, .string ⟨#[]⟩] 108 (0, 0)) := b0
      have lw1 := lt_of_heap b0
      obtain ⟨z0, z1, z2, z3, z4⟩ := rec_cells (r := ⟨(n0 : Int) + 1, u, mn, hd, ⟨#[]⟩⟩) b0
      dsimp only at z0 z1 z2 z3 z4
      unfold frT16
      go_wp2_with fail
      exact HQ _ (.agg #[.int .i64 ((n0 : Int) + 1), .string u, .int .i64 mn, .string hd, .string ⟨#[]⟩]) _ (by simp only [frT16, upd1, Nat.reduceEqDiff, reduceIte]) trivial rfl ⟨hC.1, fun h => ⟨(hC.2 h).1, rfl⟩⟩
    · have HQ := fun (a' : Act) (va : Value) (w' : World) (h1 : a' = frT16 fb eb zb n0 cap q k u t r v pb p8 g6 mn key g12 (upd1 gs 81 va)) h2 (h3 : laysT16 n0 u pb p8 mn key nn ww body hd 4 va w') h4 => hQ.out a' w' ⟨va, h1, h2, h3, h4⟩
      have r3 : gs 80 = .agg #[.int .i64 ((n0 : Int) + 1), .string u, .int .i64 mn, .string hd, .string ⟨#[]⟩] := hR 3 (hdeps ⟨3, .data⟩ (by simp) rfl)
      unfold frT16
      go_wp2_with fail
      refine (WW w1 (RD w1 hC.1.1)).mono ?_
      rintro _ wn ⟨rfl, hx⟩
      go_wp2_with fail
      exact HQ _ (.string ww) _ (by simp only [frT16, upd1, r3, Nat.reduceEqDiff, reduceIte]) trivial rfl ⟨hC.1.ext hx, hC.2⟩
    · have HQ := fun (a' : Act) (va : Value) (w' : World) (h1 : a' = frT16 fb eb zb n0 cap q k u t r v pb p8 g6 mn key g12 (upd1 gs 82 va)) h2 (h3 : laysT16 n0 u pb p8 mn key nn ww body hd 5 va w') h4 => hQ.out a' w' ⟨va, h1, h2, h3, h4⟩
      unfold frT16
      go_wp2_with fail
      exact HQ _ (.string pb) _ (by simp only [frT16, upd1, Nat.reduceEqDiff, reduceIte]) trivial rfl hC
    · have HQ := fun (a' : Act) (va : Value) (w' : World) (h1 : a' = frT16 fb eb zb n0 cap q k u t r v pb p8 g6 mn key g12 (upd1 gs 83 va)) h2 (h3 : laysT16 n0 u pb p8 mn key nn ww body hd 6 va w') h4 => hQ.out a' w' ⟨va, h1, h2, h3, h4⟩
      have r0 : gs 77 = .string key := hR 0 (hdeps ⟨0, .data⟩ (by simp) rfl)
      have r2 : gs 79 = .string nn := hR 2 (hdeps ⟨2, .data⟩ (by simp) rfl)
      have r4 : gs 81 = .string ww := hR 4 (hdeps ⟨4, .data⟩ (by simp) rfl)
      have r5 : gs 82 = .string pb := hR 5 (hdeps ⟨5, .data⟩ (by simp) rfl)
      unfold frT16
      go_wp2_with fail
      refine (SL w1 (RD w1 hC.1.1)).mono ?_
      rintro _ wn ⟨rfl, hx⟩
      go_wp2_with fail
      exact HQ _ (.tuple #[.string body, .nilIface]) _ (by simp only [frT16, upd1, r0, r2, r4, r5, Nat.reduceEqDiff, reduceIte]) trivial rfl ⟨hC.1.ext hx, hC.2⟩
    · have HQ := fun (a' : Act) (va : Value) (w' : World) (h1 : a' = frT16 fb eb zb n0 cap q k u t r v pb p8 g6 mn key g12 (upd1 gs 76 va)) h2 (h3 : laysT16 n0 u pb p8 mn key nn ww body hd 7 va w') h4 => hQ.out a' w' ⟨va, h1, h2, h3, h4⟩
      have r6 : gs 83 = .tuple #[.string body, .nilIface] := hR 6 (hdeps ⟨6, .data⟩ (by simp) rfl)
      unfold frT16
      go_wp2_with fail
      exact HQ _ (.tuple #[.string body, .nilIface]) _ (by simp only [frT16, upd1, r6, Nat.reduceEqDiff, reduceIte]) trivial rfl hC
    · have HQ := fun (a' : Act) (va : Value) (w' : World) (h1 : a' = frT16 fb eb zb n0 cap q k u t r v pb p8 g6 mn key g12 (upd1 gs 84 va)) h2 (h3 : laysT16 n0 u pb p8 mn key nn ww body hd 8 va w') h4 => hQ.out a' w' ⟨va, h1, h2, h3, h4⟩
      have r7 : gs 76 = .tuple #[.string body, .nilIface] := hR 7 (hdeps ⟨7, .data⟩ (by simp) rfl)
      unfold frT16
      go_wp2_with fail
      exact HQ _ (.string body) _ (by simp only [frT16, upd1, r7, Nat.reduceEqDiff, reduceIte]) trivial rfl hC
    · have HQ := fun (a' : Act) (va : Value) (w' : World) (h1 : a' = frT16 fb eb zb n0 cap q k u t r v pb p8 g6 mn key g12 (upd1 gs 85 va)) h2 (h3 : laysT16 n0 u pb p8 mn key nn ww body hd 9 va w') h4 => hQ.out a' w' ⟨va, h1, h2, h3, h4⟩
      have r7 : gs 76 = .tuple #[.string body, .nilIface] := hR 7 (hdeps ⟨7, .data⟩ (by simp) rfl)
      unfold frT16
      go_wp2_with fail
      exact HQ _ (.nilIface) _ (by simp only [frT16, upd1, r7, Nat.reduceEqDiff, reduceIte]) trivial rfl hC
    · have HQ := fun (a' : Act) (va : Value) (w' : World) (h1 : a' = frT16 fb eb zb n0 cap q k u t r v pb p8 g6 mn key g12 (upd1 gs 86 va)) h2 (h3 : laysT16 n0 u pb p8 mn key nn ww body hd 10 va w') h4 => hQ.out a' w' ⟨va, h1, h2, h3, h4⟩
      unfold frT16
      go_wp2_with fail
      exact HQ _ (.pointer (some ⟨p8, 4, none⟩)) _ (by simp only [frT16, upd1, Nat.reduceEqDiff, reduceIte]) trivial rfl hC
    · have HQ := fun (a' : Act) (va : Value) (w' : World) (h1 : a' = frT16 fb eb zb n0 cap q k u t r v pb p8 g6 mn key g12 (upd1 gs 1011 va)) h2 (h3 : laysT16 n0 u pb p8 mn key nn ww body hd 11 va w') h4 => hQ.out a' w' ⟨va, h1, h2, h3, h4⟩
      have r8 : gs 84 = .string body := hR 8 (hdeps ⟨8, .data⟩ (by simp) rfl)
      have r10 : gs 86 = .pointer (some ⟨p8, 4, none⟩) := hR 10 (hdeps ⟨10, .data⟩ (by simp) rfl)
      have l1 : L 1 = true := hdeps ⟨1, .phase⟩ (by simp) rfl
      have l3 : L 3 = true := hdeps ⟨3, .phase⟩ (by simp) rfl
      have hh := hC.1
      rw [show L 11 = false from hLi] at hh
      have b0 : w1.heap[p8]? = some (.cells #[.int .i64 ((n0 : Int) + 1), .string u, .int .i64 mn, .string hd, .string ⟨#[]⟩] 108 (0, 0)) := hh.2
      have lw1 := lt_of_heap b0
      have ff := free_of_heap b0
      have z4 := (rec_cells (r := ⟨(n0 : Int) + 1, u, mn, hd, ⟨#[]⟩⟩) b0).2.2.2.2
      dsimp only at z4
      have HH := Lib.hid (hh.put (x := .string body) rfl)
      clear hh b0
      unfold frT16
      go_wp2_with fail
      exact HQ _ undef _ (by simp only [frT16, upd1, r8, r10, Nat.reduceEqDiff, reduceIte]) trivial trivial ⟨HH.out, fun _ => ⟨l1, l3⟩⟩
    · have HQ := fun (a' : Act) (va : Value) (w' : World) (h1 : a' = frT16 fb eb zb n0 cap q k u t r v pb p8 g6 mn key g12 (upd1 gs 12 va)) h2 (h3 : laysT16 n0 u pb p8 mn key nn ww body hd 12 va w') h4 => hQ.out a' w' ⟨va, h1, h2, h3, h4⟩
      have r9 : gs 85 = .nilIface := hR 9 (hdeps ⟨9, .data⟩ (by simp) rfl)
      unfold frT16
      go_wp2_with fail
      exact HQ _ (.nilIface) _ (by simp only [frT16, upd1, r9, Nat.reduceEqDiff, reduceIte]) trivial rfl hC
  intro L16 g16 w7 hall hR hC

  have HP7 := hC.1.2
  have GP7 := Lib.hid hC.1.1
  rw [hall 11 (by decide), if_pos rfl] at HP7
  have HP7 := Lib.hid HP7
  have s12 : g16 12 = .nilIface := hR 12 (by decide)
  clear hC hall hR SL NN WW RD
  unfold frT16
  rw [s12]
  clear s12
  have hnone7 : True := trivial
  have KS5 := Lib.hid (((step.of_ext (fun i => V i ∨ R i) X4.out)).trans (ST5.out.same (fun i hi => .inl hi)))
  have hebW : w.heap.size = eb := hebE
  have lp8 : w.heap.size ≤ p8 := by have := LE2.out; have := P8.out; omega
  have KS7 := Lib.hid ((KS5.out.put GP6.out (.inr lp8)).put GP7.out (.inr lp8))
  have RL : ∀ i, R i → i ≠ p8 := fun i hi e => by have := HRL.out i hi; omega
  have F7 := Lib.hid (F5.out.same (w' := w7) (fun i hi => by rw [GP7.out.block i (by rw [← B56.out]; exact F5.out.lt i hi) (fun e => RL i hi (by injection e)), GP6.out.block i (F5.out.lt i hi) (fun e => RL i hi (by injection e))]) (Nat.le_trans GP6.out.size GP7.out.size))
  have VLp : ∀ i, V i → i ≠ p8 := fun i hi e => by have := VL.out i hi; omega
  have V7 := Lib.hid (V5.out.same (w' := w7) (fun i hi => by rw [GP7.out.block i (by rw [← B56.out]; exact V5.out.lt i hi) (fun e => VLp i hi (by injection e)), GP6.out.block i (V5.out.lt i hi) (fun e => VLp i hi (by injection e))]) (Nat.le_trans GP6.out.size GP7.out.size))
  have hzbp : zb ≠ p8 := fun e => by have := P8.out; have := S3.out; omega
  have Z7 := Lib.hid ((GP7.out.block zb (by rw [← B56.out]; exact lt_of_heap Z5.out) (fun e => hzbp (by injection e))).trans ((GP6.out.block zb (lt_of_heap Z5.out) (fun e => hzbp (by injection e))).trans Z5.out))
  clear KS5 F5 V5 Z5 GP6 GP7 HP6 R6 B56 RL VLp HR5 ST5 E5
  clear h1' hrounds
  obtain ⟨q7, cap7, h1, h2, h3, h4⟩ := F7.out.at_
  rw [hnl] at h1 h2
  have FB7 := Lib.hid h1
  have CL := fun W => clip_any q7 n0 cap7 W h2
  obtain ⟨iR, hiR, hzR1, hzR2, hzR3⟩ := info_parts infoRec
  have hnone : q7 = none → n0 = 0 ∧ n0 = 0 := fun e => by
    rcases h3 with h3 | ⟨g, o, hq, _⟩
    · rw [h3] at hnl; simp at hnl; omega
    · rw [e] at hq; cases hq
  have OLDS : ∀ W, w7.grownBy W (some fb) → ∀ b, q7 = some b → ∀ j u, (flatRec L)[j]? = some u → W.cell? (b.add j) = some u := fun W hg b hb j u hj => by
    subst hb
    exact (recs_flat (recsAt_same h3 (fun a ha => by
      cases ha
      rcases h3 with h3 | ⟨g, o, hq, hg', _⟩
      · subst h3; simp [flatRec] at hj
      · cases hq
        exact hg.block _ hg' (fun e => (h4 _ rfl).2 (by injection e))) hg.size) j u hj).2
  have hold5 : (flatRec L).length = n0 * 5 := by rw [flatRec_length, hnl]
  have APP : ∀ base v W, W.ownsRow base 108 5 v (n0 + 1) (flatRec L ++ recVs ⟨(n0 : Int) + 1, u, mn, hd, body⟩) → ownsRl W base v (L ++ [⟨(n0 : Int) + 1, u, mn, hd, body⟩]) := fun base v W h => by
    unfold ownsRl; rw [flatRec_append, List.length_append, hnl]; exact h
  have HLr : Hid (∀ X, X = L ++ [(⟨(n0 : Int) + 1, u, mn, hd, body⟩ : Rec)] → X = L ++ [⟨(n0 : Int) + 1, u, mn, hd, body⟩]) := Lib.hid fun _ h => h
  generalize hLr : L ++ [(⟨(n0 : Int) + 1, u, mn, hd, body⟩ : Rec)] = Lr at APP
  have HLR := Lib.hid hLr
  clear hLr HLr
  generalize flatRec L = old at hold5 APP OLDS
  have HRL2 := Lib.hid (show eb < w7.heap.size by have := lt_of_heap Z7.out; omega)
  have HRL3 := Lib.hid (lt_of_heap Z7.out)
  have HRL4 := Lib.hid FB7.out
  have lp7 := lt_of_heap HP7.out
  generalize hm7 : w7.heap.size = m7
  have hp8f : some p8 ≠ some fb := fun e => by injection e with e; have := HRL.out fb F7.out.fb_; omega
  clear h1 h2 h3 h4
  go_wp2_with fail
  refine wp_region_slots (frT19 fb eb zb n0 cap q k u t r v pb p8 g6 mn key g12 g16) dstT19 (fun _ => undef) (laysT19 fb n0 u mn hd body q7 cap7 Lr m7) (fun L g w => stF fb vb n0 cap7 q7 w7 (L 11) (g 99) w ∧ (L 11 = true → L 4 = true ∧ L 8 = true)) (fun w w' => w.grownBy w' (some fb)) (by kernel_rfl) (by kernel_rfl) rfl ?_ (by kernel_rfl) ⟨⟨grown_drawn _ _ _, FB7.out⟩, fun h => by cases h⟩ ?_ ?_
  · exact laysT19_kept
  · refine ⟨?_, ?_, ?_, ?_, ?_, ?_, ?_, ?_, ?_, ?_, ?_, ?_, trivial⟩
    all_goals (intro L gs w1 hLi hdeps hR hC; refine ends_of fun Q hQ => ?_)
    · have HQ := fun (a' : Act) (va : Value) (w' : World) (h1 : a' = frT19 fb eb zb n0 cap q k u t r v pb p8 g6 mn key g12 g16 (upd1 gs 91 va)) h2 (h3 : laysT19 fb n0 u mn hd body q7 cap7 Lr m7 0 va w') h4 => hQ.out a' w' ⟨va, h1, h2, h3, h4⟩
      unfold frT19
      go_wp2_with fail
      exact HQ _ (.pointer (some ⟨fb, 0, none⟩)) _ (by simp only [frT19, upd1, Nat.reduceEqDiff, reduceIte]) (grown_refl _ _) rfl hC
    · have HQ := fun (a' : Act) (va : Value) (w' : World) (h1 : a' = frT19 fb eb zb n0 cap q k u t r v pb p8 g6 mn key g12 g16 (upd1 gs 92 va)) h2 (h3 : laysT19 fb n0 u mn hd body q7 cap7 Lr m7 1 va w') h4 => hQ.out a' w' ⟨va, h1, h2, h3, h4⟩
      unfold frT19
      go_wp2_with fail
      exact HQ _ (.pointer (some ⟨fb, 0, none⟩)) _ (by simp only [frT19, upd1, Nat.reduceEqDiff, reduceIte]) (grown_refl _ _) rfl hC
    · have HQ := fun (a' : Act) (va : Value) (w' : World) (h1 : a' = frT19 fb eb zb n0 cap q k u t r v pb p8 g6 mn key g12 g16 (upd1 gs 93 va)) h2 (h3 : laysT19 fb n0 u mn hd body q7 cap7 Lr m7 2 va w') h4 => hQ.out a' w' ⟨va, h1, h2, h3, h4⟩
      have r1 : gs 92 = .pointer (some ⟨fb, 0, none⟩) := hR 1 (hdeps ⟨1, .data⟩ (by simp) rfl)
      unfold frT19
      go_wp2_with fail
      exact HQ _ (.pointer (some ⟨fb, 0, none⟩)) _ (by simp only [frT19, upd1, r1, Nat.reduceEqDiff, reduceIte]) (grown_refl _ _) rfl hC
    · have HQ := fun (a' : Act) (va : Value) (w' : World) (h1 : a' = frT19 fb eb zb n0 cap q k u t r v pb p8 g6 mn key g12 g16 (upd1 gs 94 va)) h2 (h3 : laysT19 fb n0 u mn hd body q7 cap7 Lr m7 3 va w') h4 => hQ.out a' w' ⟨va, h1, h2, h3, h4⟩
      have r2 : gs 93 = .pointer (some ⟨fb, 0, none⟩) := hR 2 (hdeps ⟨2, .data⟩ (by simp) rfl)
      unfold frT19
      go_wp2_with fail
      exact HQ _ (.pointer (some ⟨fb, 1, none⟩)) _ (by simp only [frT19, upd1, r2, Nat.reduceEqDiff, reduceIte]) (grown_refl _ _) rfl hC
    · have HQ := fun (a' : Act) (va : Value) (w' : World) (h1 : a' = frT19 fb eb zb n0 cap q k u t r v pb p8 g6 mn key g12 g16 (upd1 gs 95 va)) h2 (h3 : laysT19 fb n0 u mn hd body q7 cap7 Lr m7 4 va w') h4 => hQ.out a' w' ⟨va, h1, h2, h3, h4⟩
      have r3 : gs 94 = .pointer (some ⟨fb, 1, none⟩) := hR 3 (hdeps ⟨3, .data⟩ (by simp) rfl)
      have n11 : L 11 = false := by cases h : L 11 with | false => rfl | true => exact absurd (hC.2 h).1 (by rw [show L 4 = false from hLi]; simp)
      have b0 := hC.1.2
      rw [n11] at b0
      have b0 : w1.heap[fb]? = some (.cells #[.pointer (some ⟨vb, 0, none⟩), .slice q7 n0 cap7] 90 (0, 0)) := b0
      obtain ⟨c0, c1⟩ := two_at b0
      have lw1 : fb < w1.heap.size := lt_of_heap b0
      unfold frT19
      go_wp2_with fail
      exact HQ _ (.slice q7 n0 cap7) _ (by simp only [frT19, upd1, r3, Nat.reduceEqDiff, reduceIte]) (grown_refl _ _) rfl ⟨hC.1, fun h => ⟨rfl, (hC.2 h).2⟩⟩
    · have HQ := fun (a' : Act) (va : Value) (w' : World) (h1 : a' = frT19 fb eb zb n0 cap q k u t r v pb p8 g6 mn key g12 g16 (upd1 gs 96 va)) h2 (h3 : laysT19 fb n0 u mn hd body q7 cap7 Lr m7 5 va w') h4 => hQ.out a' w' ⟨va, h1, h2, h3, h4⟩
      have r4 : gs 95 = .slice q7 n0 cap7 := hR 4 (hdeps ⟨4, .data⟩ (by simp) rfl)
      unfold frT19
      go_wp2_with fail
      refine (CL w1).mono ?_
      rintro _ wn ⟨rfl, rfl⟩
      go_wp2_with fail
      exact HQ _ (.slice q7 n0 n0) _ (by simp only [frT19, upd1, r4, Nat.reduceEqDiff, reduceIte]) (grown_refl _ _) rfl hC
    · have HQ := fun (a' : Act) (va : Value) (w' : World) (h1 : a' = frT19 fb eb zb n0 cap q k u t r v pb p8 g6 mn key g12 g16 (upd1 gs 97 va)) h2 (h3 : laysT19 fb n0 u mn hd body q7 cap7 Lr m7 6 va w') h4 => hQ.out a' w' ⟨va, h1, h2, h3, h4⟩
      have b0 := ((hC.1.1).block _ lp7 hp8f).trans HP7.out
      have lw1 := lt_of_heap b0
      obtain ⟨z0, z1, z2, z3, z4⟩ := rec_cells (r := ⟨(n0 : Int) + 1, u, mn, hd, body⟩) b0
      dsimp only at z0 z1 z2 z3 z4
      unfold frT19
      go_wp2_with fail
      exact HQ _ (.agg #[.int .i64 ((n0 : Int) + 1), .string u, .int .i64 mn, .string hd, .string body]) _ (by simp only [frT19, upd1, Nat.reduceEqDiff, reduceIte]) (grown_refl _ _) rfl hC
    · have HQ := fun (a' : Act) (va : Value) (w' : World) (h1 : a' = frT19 fb eb zb n0 cap q k u t r v pb p8 g6 mn key g12 g16 (upd1 gs 98 va)) h2 (h3 : laysT19 fb n0 u mn hd body q7 cap7 Lr m7 7 va w') h4 => hQ.out a' w' ⟨va, h1, h2, h3, h4⟩
      have r6 : gs 97 = .agg #[.int .i64 ((n0 : Int) + 1), .string u, .int .i64 mn, .string hd, .string body] := hR 6 (hdeps ⟨6, .data⟩ (by simp) rfl)
      unfold frT19
      go_wp2_with fail
      exact HQ _ (.slice (some ⟨w1.heap.size, 0, none⟩) 1 1) _ (by simp only [frT19, upd1, r6, Nat.reduceEqDiff, reduceIte]) (World.grownBy_alloc _ _ _) ⟨_, rfl, lt_of_heap hC.1.2, heap_alloc_at w1 _⟩ ⟨hC.1.ext (ext_alloc _ (ext_refl _)), hC.2⟩
    · have HQ := fun (a' : Act) (va : Value) (w' : World) (h1 : a' = frT19 fb eb zb n0 cap q k u t r v pb p8 g6 mn key g12 g16 (upd1 gs 99 va)) h2 (h3 : laysT19 fb n0 u mn hd body q7 cap7 Lr m7 8 va w') h4 => hQ.out a' w' ⟨va, h1, h2, h3, h4⟩
      have r5 : gs 96 = .slice q7 n0 n0 := hR 5 (hdeps ⟨5, .data⟩ (by simp) rfl)
      have r7 := hR 7 (hdeps ⟨7, .data⟩ (by simp) rfl)
      have n11 : L 11 = false := by cases h : L 11 with | false => rfl | true => exact absurd (hC.2 h).2 (by rw [show L 8 = false from hLi]; simp)
      obtain ⟨p, r7, hp, hb⟩ := r7
      change gs 98 = _ at r7
      unfold frT19
      refine wpList_append_grows w1 rfl (.tmp 96) (.tmp 98) 88 rfl 108 iR (.agg (recV zeroR)) 5 64 Tryz.underlying88 hiR hzR1 hzR2 hzR3 rfl (by decide) q7 n0 n0 old (show gs 96 = _ from r5) hnone ?_ (OLDS w1 hC.1.1) ⟨p, 0, none⟩ 1 1 (recVs ⟨(n0 : Int) + 1, u, mn, hd, body⟩) (show gs 98 = _ from r7) rfl (fun j u hj => by rw [addr_add, Nat.zero_add, cell_in, hb, ← hj]; exact List.getElem?_toArray) (by intro u hu; simp [recVs] at hu; rcases hu with rfl | rfl | rfl | rfl | rfl <;> rfl) (Nat.lt_succ_self _) (by unfold maxLen; omega) (by omega) ?_
      · exact hold5
      intro va wa OW GR
      have OW' := APP _ _ _ OW
      have X := Lib.hid (show ∃ x, wa = ext w1 x from ext_of ⟨GR.os, GR.tape, GR.output, GR.size, fun i hi => GR.block i hi (by simp)⟩)
      have NXT := Lib.hid (show stF fb vb n0 cap7 q7 w7 (L 11) va wa from by have h := hC.1; rw [n11] at h ⊢; exact (h.ext X.out).any)
      go_wp2_with fail
      exact HQ _ (va) _ (by simp only [frT19, upd1, r5, r7, Nat.reduceEqDiff, reduceIte]) (grown_below (ext_iff.1 X.out) _) ⟨_, lt_of_heap hC.1.2, Nat.le_trans (Nat.le_of_eq hm7.symm) hC.1.1.size, OW'⟩ ⟨NXT.out, fun h => ⟨(hC.2 h).1, rfl⟩⟩
    · have HQ := fun (a' : Act) (va : Value) (w' : World) (h1 : a' = frT19 fb eb zb n0 cap q k u t r v pb p8 g6 mn key g12 g16 (upd1 gs 100 va)) h2 (h3 : laysT19 fb n0 u mn hd body q7 cap7 Lr m7 9 va w') h4 => hQ.out a' w' ⟨va, h1, h2, h3, h4⟩
      have r0 : gs 91 = .pointer (some ⟨fb, 0, none⟩) := hR 0 (hdeps ⟨0, .data⟩ (by simp) rfl)
      unfold frT19
      go_wp2_with fail
      exact HQ _ (.pointer (some ⟨fb, 0, none⟩)) _ (by simp only [frT19, upd1, r0, Nat.reduceEqDiff, reduceIte]) (grown_refl _ _) rfl hC
    · have HQ := fun (a' : Act) (va : Value) (w' : World) (h1 : a' = frT19 fb eb zb n0 cap q k u t r v pb p8 g6 mn key g12 g16 (upd1 gs 101 va)) h2 (h3 : laysT19 fb n0 u mn hd body q7 cap7 Lr m7 10 va w') h4 => hQ.out a' w' ⟨va, h1, h2, h3, h4⟩
      have r9 : gs 100 = .pointer (some ⟨fb, 0, none⟩) := hR 9 (hdeps ⟨9, .data⟩ (by simp) rfl)
      unfold frT19
      go_wp2_with fail
      exact HQ _ (.pointer (some ⟨fb, 1, none⟩)) _ (by simp only [frT19, upd1, r9, Nat.reduceEqDiff, reduceIte]) (grown_refl _ _) rfl hC
    · have HQ := fun (a' : Act) (va : Value) (w' : World) (h1 : a' = frT19 fb eb zb n0 cap q k u t r v pb p8 g6 mn key g12 g16 (upd1 gs 1011 va)) h2 (h3 : laysT19 fb n0 u mn hd body q7 cap7 Lr m7 11 va w') h4 => hQ.out a' w' ⟨va, h1, h2, h3, h4⟩
      have r10 : gs 101 = .pointer (some ⟨fb, 1, none⟩) := hR 10 (hdeps ⟨10, .data⟩ (by simp) rfl)
      have l4 : L 4 = true := hdeps ⟨4, .phase⟩ (by simp) rfl
      have l8 : L 8 = true := hdeps ⟨8, .data⟩ (by simp) rfl
      have hh := hC.1
      rw [show L 11 = false from hLi] at hh
      have b0 : w1.heap[fb]? = some (.cells #[.pointer (some ⟨vb, 0, none⟩), .slice q7 n0 cap7] 90 (0, 0)) := hh.2
      obtain ⟨c0, c1⟩ := two_at b0
      have lw1 := lt_of_heap b0
      have ff := free_of_heap b0
      have HH := Lib.hid (hh.put (x := gs 99))
      obtain ⟨bs9, hbs, hbm, ow9⟩ := hR 8 (hdeps ⟨8, .data⟩ (by simp) rfl)
      obtain ⟨q9, cp9, hs9⟩ := ownsRl_shape ow9
      change gs 99 = _ at hs9
      rw [hs9] at HH
      have HS9 := Lib.hid hs9
      clear hh b0 ow9 hs9 hbs hbm
      unfold frT19
      rw [HS9.out]
      go_wp2_with fail
      exact HQ _ undef _ (by simp only [frT19, upd1, r10, HS9.out, Nat.reduceEqDiff, reduceIte]) (grown_setCell _ _ _ _) trivial ⟨(show stF fb vb n0 cap7 q7 w7 true (gs 99) _ from by rw [HS9.out]; exact HH.out), fun _ => ⟨l4, l8⟩⟩
  intro L19 g19 w8 hall hR hC

  have hC1 := hC.1
  rw [hall 11 (by decide)] at hC1
  obtain ⟨bs9, hbs, hbm, ow9⟩ : ∃ base, fb < base ∧ m7 ≤ base ∧ ownsRl w8 base (g19 99) Lr := hR 8 (by decide)
  obtain ⟨q9, cp9, hs9⟩ := ownsRl_shape ow9
  have FB8 := hC1.2
  rw [if_pos rfl, hs9] at FB8
  have FB8 := Lib.hid FB8
  rw [hs9] at ow9
  have OW9 := Lib.hid ow9
  have GP8 := Lib.hid hC1.1
  have HS9 := Lib.hid hs9
  have HP8 := Lib.hid ((hC1.1.block _ lp7 hp8f).trans HP7.out)
  have hzbf : zb ≠ fb := fun e => by have := HRL.out fb F7.out.fb_; omega
  have Z8 := Lib.hid ((hC1.1.block _ (lt_of_heap Z7.out) (fun e => hzbf (by injection e))).trans Z7.out)
  have KS8 := Lib.hid (KS7.out.put GP8.out (.inl (.inr F7.out.fb_)))
  have V8 := Lib.hid (V7.out.same (w' := w8) (fun i hi => hC1.1.block i (V7.out.lt i hi) (fun e => by injection e with e; subst e; exact hfbV hi)) hC1.1.size)
  clear hC hC1 hall hR ow9 hs9 CL hnone OLDS hold5 APP HP7 Z7 KS7 V7 FB7 lp7 hiR hzR1 hzR2 hzR3
  unfold frT19
  obtain ⟨z0, z1, z2, z3, z4⟩ := rec_cells (r := ⟨(n0 : Int) + 1, u, mn, hd, body⟩) HP8.out
  dsimp only at z0 z1 z2 z3 z4
  obtain ⟨y0, y1, y2, y3, y4⟩ := rec_cells (r := ⟨0, ⟨#[]⟩, 0, ⟨#[]⟩, ⟨#[]⟩⟩) Z8.out
  dsimp only at y0 y1 y2 y3 y4
  have lz := lt_of_heap Z8.out
  have lp := lt_of_heap HP8.out
  have fz := free_of_heap Z8.out
  have SR := Lib.hid (setRec5 Z8.out (.int .i64 ((n0 : Int) + 1)) (.string u) (.int .i64 mn) (.string hd) (.string body))
  go_wp2_with fail
  generalize (((((w8.setCell ⟨zb, 0, none⟩ (.int .i64 ((n0 : Int) + 1))).setCell ⟨zb, 1, none⟩ (.string u)).setCell ⟨zb, 2, none⟩ (.int .i64 mn)).setCell ⟨zb, 3, none⟩ (.string hd)).setCell ⟨zb, 4, none⟩ (.string body)) = w9 at SR ⊢
  obtain ⟨SR1, SR2⟩ := SR.out
  have HT : toldR sec many has L ⟨k, u, t, r, v⟩ = ⟨(n0 : Int) + 1, u, mn, hd, body⟩ := by
    have hpr : putR many has L ⟨k, u, t, r, v⟩ = ⟨(n0 : Int) + 1, u, mn, hd, ⟨#[]⟩⟩ := by unfold putR; dsimp only; rw [hnl, HMN.out, HHD.out]
    unfold toldR
    rw [if_neg (show ¬ (⟨k, u, t, r, v⟩ : Ev).kind = 3 from HK.out), hpr, HNN.out, HWW.out]
    dsimp only
    rw [HKEY.out, show mkT (printL ⟨k, u, t, r, v⟩) = pb from EPb.out, show mkS (sealB key nn ww pb) = body from HBD.out]
  have HM : toldMany many has ⟨k, u, t, r, v⟩ = updS many u mn := by
    unfold toldMany
    rw [if_neg (show ¬ (⟨k, u, t, r, v⟩ : Ev).kind = 3 from HK.out)]
    dsimp only
    rw [HMN.out]
  have HH : toldHas has ⟨k, u, t, r, v⟩ = updS has u true := by
    unfold toldHas
    dsimp only
    rw [show decide (k ≠ 3) = true from decide_eq_true HK.out]
  have zsm : smallR ⟨(n0 : Int) + 1, u, mn, hd, body⟩ := by
    have h1 := (print_short HR.out)
    refine ⟨h1.2.2, ?_, ?_⟩
    · show hd.size = 16; rw [← HHD.out]; exact headR_size L
    · show body.size ≤ 86
      rw [← HBD.out]
      show (sealB key nn ww pb).toArray.size ≤ 86
      rw [List.size_toArray, sealB_length, ← EPb.out]
      show 16 + (printL _).toArray.size ≤ 86
      rw [List.size_toArray]; have := h1.1; omega
  have hq9 : ∀ a, q9 = some a → m7 ≤ a.block ∧ a.block < w8.heap.size := fun a ha => by
    have := OW9.out.base (g := a.block) (by rw [ha]; rfl)
    omega
  have hcp : Lr.length ≤ cp9 := by
    obtain ⟨_, ⟨h1, h2⟩ | ⟨g, cap', cur, h1, _, _, h2, _⟩⟩ := OW9.out
    · rw [h2]; exact Nat.zero_le _
    · injection h1 with _ _ h1; rw [h1]; exact h2
  have hm7w : w.heap.size ≤ m7 := by rw [← hm7]; exact Nat.le_trans (by omega) (Nat.le_of_lt (HRL2.out))
  have hzm : zb < m7 := by rw [← hm7]; exact HRL3.out
  have hfm : fb < m7 := by rw [← hm7]; exact lt_of_heap (show w7.heap[fb]? = _ from HRL4.out)
  refine ret_cells rfl rfl SR1 Tryz.underlying108 rfl (by kernel_rfl) rfl rfl (HP.out _ _ ⟨by rw [HT]; rfl, fun i => R i ∨ ∃ a, q9 = some a ∧ a.block = i, ?_, ?_, ?_, ?_⟩)
  · rw [HM, HH]
    exact V8.out.same (fun i hi => SR2.block i (V8.out.lt i hi) (fun e => by injection e with e; have := VL.out i hi; omega)) SR2.size
  · rw [HT, HLR.out]
    refine ⟨⟨q9, cp9, (SR2.block fb (lt_of_heap FB8.out) (fun e => hzbf (by injection e with e; exact e.symm))).trans FB8.out, hcp, ?_, fun a ha => ⟨.inr ⟨a, ha, rfl⟩, fun e => ?_⟩⟩, .inl F7.out.fb_, ?_, ?_, ?_⟩
    · exact recsAt_same (recsAt_owned OW9.out) (fun a ha => SR2.block _ (hq9 a ha).2 (fun e => by injection e with e; have := (hq9 a ha).1; omega)) SR2.size
    · have := (hq9 a ha).1; omega
    · rintro i (hi | ⟨a, ha, rfl⟩)
      · exact Nat.lt_of_lt_of_le (F7.out.lt i hi) (Nat.le_trans GP8.out.size SR2.size)
      · exact Nat.lt_of_lt_of_le (hq9 a ha).2 SR2.size
    · intro x hx
      rw [← HLR.out] at hx
      rcases List.mem_append.1 hx with hx | hx
      · exact F7.out.small x hx
      · rw [List.mem_singleton.1 hx]; exact zsm
    · rw [← HLR.out, List.length_append, hnl, List.length_singleton]; omega
  · refine (KS8.out.put SR2 (.inr (by omega))).more ?_
    rintro i (hi | hi | ⟨a, ha, rfl⟩)
    · exact .inl (.inl hi)
    · exact .inl (.inr hi)
    · have := hq9 a ha
      have := SR2.size
      exact .inr ⟨by omega, by omega⟩
  · rintro i (hi | ⟨a, ha, rfl⟩)
    · exact .inl hi
    · have := hq9 a ha
      exact .inr (by omega)
def frT29 (fb : Nat) (eb : Nat) (zb : Nat) (n : Nat) (cap : Nat) (q : Option Addr) (k : Int) (u : ByteArray) (t : ByteArray) (r : ByteArray) (v0 : ByteArray) (pb : ByteArray) (p8 : Nat) (g6 : Nat → Value) (vb : Nat) (g : Nat → Value) : Act := { tmps := #[.pointer (some ⟨fb, 0, none⟩), .agg #[.int .i64 k, .string u, .string t, .string r, .string v0], undef, .pointer (some ⟨eb, 0, none⟩), .pointer (some ⟨zb, 0, none⟩), .nilIface, .string pb, .nilIface, .pointer (some ⟨p8, 0, none⟩), .nilIface, undef, undef, undef, .tuple #[.string pb, .nilIface], .agg #[.int .i64 k, .string u, .string t, .string r, .string v0], .tuple #[.string pb, .nilIface], .string pb, .nilIface, .bool false, .nilIface, .bool false, undef, undef, .bool false, .pointer (some ⟨fb, 0, none⟩), .pointer (some ⟨fb, 0, none⟩), .pointer (some ⟨fb, 1, none⟩), .slice q n cap, .int .i64 n, .bool false, undef, undef, g6 32, g6 33, g6 34, g6 35, g6 36, g6 37, g6 38, g6 39, g6 40, g6 41, g6 42, .pointer (some ⟨eb, 0, none⟩), .int .i64 k, .bool true, .pointer (some ⟨fb, 0, none⟩), .pointer (some ⟨fb, 0, none⟩), .pointer (some ⟨fb, 0, none⟩), .pointer (some ⟨vb, 0, none⟩), .pointer (some ⟨eb, 1, none⟩), .string u, .nilIface, .nilIface, .bool false, undef, undef, .string pb, .pointer (some ⟨p8, 4, none⟩), undef, undef, undef, undef, undef, undef, undef, undef, undef, undef, undef, undef, undef, undef, undef, undef, undef, undef, undef, undef, undef, undef, undef, undef, undef, undef, undef, undef, undef, undef, undef, undef, g 91, g 92, g 93, g 94, g 95, g 96, g 97, g 98, g 99, g 100, g 101, undef], defers := [] }
def dstT29 (i : Nat) : Nat := ([91, 92, 93, 94, 95, 96, 97, 98, 99, 100, 101, 1011] : List Nat).getD i (2000 + i)
def laysT29 (fb : Nat) (n : Nat) (u : ByteArray) (pb : ByteArray) (hd : ByteArray) (q4 : Option Addr) (cap4 : Nat) (Lr : List Rec) (m7 : Nat) (j : Nat) (v : Value) (w : World) : Prop :=
  match j with
  | 0 => v = .pointer (some ⟨fb, 0, none⟩)
  | 1 => v = .pointer (some ⟨fb, 0, none⟩)
  | 2 => v = .pointer (some ⟨fb, 0, none⟩)
  | 3 => v = .pointer (some ⟨fb, 1, none⟩)
  | 4 => v = .slice q4 n cap4
  | 5 => v = .slice q4 n n
  | 6 => v = .agg #[.int .i64 ((n : Int) + 1), .string u, .int .i64 0, .string hd, .string pb]
  | 7 => ∃ p, v = .slice (some ⟨p, 0, none⟩) 1 1 ∧ fb < p ∧ w.heap[p]? = some (.cells #[.int .i64 ((n : Int) + 1), .string u, .int .i64 0, .string hd, .string pb] 108 (0, 0))
  | 8 => ∃ base, fb < base ∧ m7 ≤ base ∧ ownsRl w base v Lr
  | 9 => v = .pointer (some ⟨fb, 0, none⟩)
  | 10 => v = .pointer (some ⟨fb, 1, none⟩)
  | _ => True
theorem laysT29_kept {fb : Nat} {n : Nat} {u : ByteArray} {pb : ByteArray} {hd : ByteArray} {q4 : Option Addr} {cap4 : Nat} {Lr : List Rec} {m7 : Nat} (j : Nat) (v : Value) (w w' : World) (h : w.grownBy w' (some fb)) (hr : laysT29 fb n u pb hd q4 cap4 Lr m7 j v w) : laysT29 fb n u pb hd q4 cap4 Lr m7 j v w' := by
  unfold laysT29 at hr ⊢
  split at hr <;> first | exact hr | (obtain ⟨p, h1, h2, h3⟩ := hr; exact ⟨p, h1, h2, (h.block _ (lt_of_heap h3) (by intro e; injection e with e; omega)).trans h3⟩) | (obtain ⟨b, h1, h2, h3⟩ := hr; exact ⟨b, h1, h2, h3.kept h (by intro g hg e; injection e with e; have := (h3.base hg).1; omega)⟩)

set_option maxRecDepth 100000 in
set_option maxHeartbeats 4000000 in
theorem tell_gone (e : Ev) (w : World) (V R : Blk) (fb vb n : Nat) (sec : ByteArray) (many : ByteArray → Nat) (has : ByteArray → Bool) (L : List Rec) (hv : vaultIn w V vb n sec many has) (hf : feedIn w R fb vb L) (ha : apart V R) (hG : Glob w (fun i => V i ∨ R i))
    (hr : rightE okV e = true) (hk : e.kind = 3) (hh : has e.subject = true) (hz : e.subject.size ≤ 1048576 ∧ e.table.size ≤ 1048576 ∧ e.row.size ≤ 1048576) (hvz : e.value.size ≤ 1048576) (hL : L.length < 100) :
    Calls Tryz.prog 122 #[.pointer (some ⟨fb, 0, none⟩), .agg (evV e)] w (TellPost e w V R fb vb n sec many has L) := by
  have PR := fun w h => print_any e w hz hvz h
  rw [hr, if_pos rfl] at PR
  rw [if_pos rfl] at PR
  have HF := Lib.hid hf
  have HV := Lib.hid hv
  have GG := Lib.hid hG
  have AP := Lib.hid ha
  have HR := Lib.hid hr
  have HK := Lib.hid hk
  have hk3 : (e.kind == 3) = true := by simp [hk]
  have HHS := Lib.hid hh
  clear hh
  have hl1 : ((L.length : Int) == 100) = false := by simp; omega
  clear hf hv hG ha hr hk
  generalize ePb : (⟨(printL e).toArray⟩ : ByteArray) = pb at PR
  have EPb := Lib.hid ePb
  clear ePb
  have H2 := two_new w (.cells (evV e) 155) (.cells (recV zeroR) 108)
  have X2 := Lib.hid (ext_alloc (.cells (recV zeroR) 108) (ext_alloc (.cells (evV e) 155) (ext_refl w)))
  have HE := Lib.hid H2.1
  have HZ := Lib.hid H2.2.1
  have SZ := Lib.hid H2.2.2
  clear H2
  have HP : Hid (∀ r w', (r = .returned (.tuple #[.agg (recV (toldR sec many has L e)), .nilIface]) ∧ ∃ R', vaultIn w' V vb (n + 2) sec (toldMany many has e) (toldHas has e) ∧ feedIn w' R' fb vb (L ++ [toldR sec many has L e]) ∧ step w w' (fun i => V i ∨ R i) (fun i => V i ∨ R' i) ∧ ∀ i, R' i → R i ∨ w.heap.size ≤ i) → TellPost e w V R fb vb n sec many has L r w') := Lib.hid fun _ _ h => h
  generalize hP : TellPost e w V R fb vb n sec many has L = P at HP ⊢
  clear hP
  unfold evV at PR HE HZ X2 SZ ⊢
  unfold recV zeroR at HZ HE X2 SZ
  dsimp only at HE HZ X2 SZ
  obtain ⟨k, u, t, r, v⟩ := e
  dsimp only at PR HK HHS hz hvz HE HZ X2 SZ hk3 ⊢
  go_enter Tryz.func122, Tryz.ntmps122
  go_wp2_with fail
  generalize (w.alloc (.cells #[.int .i64 k, .string u, .string t, .string r, .string v] 155)).alloc (.cells #[.int .i64 0, .string ⟨#[]⟩, .int .i64 0, .string ⟨#[]⟩, .string ⟨#[]⟩] 108) = w1 at HE HZ SZ X2 ⊢
  refine (PR _ (GG.out.ext X2.out).words).mono ?_
  rintro _ w2 ⟨rfl, hx⟩
  have X3 := Lib.hid (ext_trans X2.out hx)
  have E3 := Lib.hid (((ext_iff.1 hx).block _ (lt_of_heap HE.out)).trans HE.out)
  have Z3 := Lib.hid (((ext_iff.1 hx).block _ (lt_of_heap HZ.out)).trans HZ.out)
  have S3 := Lib.hid (Nat.le_trans (Nat.le_of_eq SZ.out.symm) (ext_iff.1 hx).size)
  have F3 := Lib.hid (HF.out.ext X3.out)
  have V3 := Lib.hid (HV.out.ext X3.out)
  have G3 := Lib.hid (GG.out.ext X3.out)
  have HVL := Lib.hid (HV.out.lt)
  have HRL := Lib.hid (HF.out.lt)
  clear hx X2 HE HZ SZ PR HF HV
  obtain ⟨q, cap, h1, h2, h3, h4⟩ := F3.out.at_
  have B3 := Lib.hid h1
  obtain ⟨c0, c1⟩ := two_at h1
  have lf := lt_of_heap h1
  clear h1 h2 h3 h4
  go_wp2_with fail
  have HD : ∀ W, Below w2.heap.size w2 W → Calls Tryz.prog 149 #[.pointer (some ⟨fb, 0, none⟩)] W fun e w' => e = .returned (.string (headR L)) ∧ ∃ x, w' = ext W x := fun W hB => fhead_any W R fb vb L (F3.out.ext (ext_of hB)) (G3.out.ext (ext_of hB)).rounds
  have HD := Lib.hid HD
  have le3 := Lib.hid (lt_of_heap E3.out)
  have hN := hL
  generalize hnl : L.length = n0 at *
  generalize hhd : headR L = hd at HD
  have HHD := Lib.hid hhd
  clear hhd
  generalize hebE : w.heap.size = eb at *
  generalize hzbE : eb + 1 = zb at *
  have HD := HD.out
  have le3 := le3.out
  clear c0 c1
  refine wp_region_slots (frT6 fb eb zb n0 cap q k u t r v pb) dstT6 (fun _ => undef) (laysT6 fb eb n0 cap q u hd) (fun L g w => newR w2 #[.int .i64 0, .string ⟨#[]⟩, .int .i64 0, .string ⟨#[]⟩, .string ⟨#[]⟩] #[.int .i64 ((n0 : Int) + 1), .string u, .int .i64 0, .string hd, .string ⟨#[]⟩] (L 11) (L 12) (g 8) w) (fun w w' => True) (by kernel_rfl) (by kernel_rfl) rfl ?_ (by kernel_rfl) (newR.start _ _ _ _) ?_ ?_
  · exact fun _ _ _ _ _ h => h
  · refine ⟨?_, ?_, ?_, ?_, ?_, ?_, ?_, ?_, ?_, ?_, ?_, ?_, ?_, trivial⟩
    all_goals (intro L gs w1 hLi hdeps hR hC; refine ends_of fun Q hQ => ?_)
    · have HQ := fun (a' : Act) (va : Value) (w' : World) (h1 : a' = frT6 fb eb zb n0 cap q k u t r v pb (upd1 gs 32 va)) h2 (h3 : laysT6 fb eb n0 cap q u hd 0 va w') h4 => hQ.out a' w' ⟨va, h1, h2, h3, h4⟩
      unfold frT6
      go_wp2_with fail
      exact HQ _ (.pointer (some ⟨fb, 0, none⟩)) _ (by simp only [frT6, upd1, Nat.reduceEqDiff, reduceIte]) trivial rfl hC
    · have HQ := fun (a' : Act) (va : Value) (w' : World) (h1 : a' = frT6 fb eb zb n0 cap q k u t r v pb (upd1 gs 33 va)) h2 (h3 : laysT6 fb eb n0 cap q u hd 1 va w') h4 => hQ.out a' w' ⟨va, h1, h2, h3, h4⟩
      have r0 : gs 32 = .pointer (some ⟨fb, 0, none⟩) := hR 0 (hdeps ⟨0, .data⟩ (by simp) rfl)
      unfold frT6
      go_wp2_with fail
      exact HQ _ (.pointer (some ⟨fb, 0, none⟩)) _ (by simp only [frT6, upd1, r0, Nat.reduceEqDiff, reduceIte]) trivial rfl hC
    · have HQ := fun (a' : Act) (va : Value) (w' : World) (h1 : a' = frT6 fb eb zb n0 cap q k u t r v pb (upd1 gs 34 va)) h2 (h3 : laysT6 fb eb n0 cap q u hd 2 va w') h4 => hQ.out a' w' ⟨va, h1, h2, h3, h4⟩
      have r1 : gs 33 = .pointer (some ⟨fb, 0, none⟩) := hR 1 (hdeps ⟨1, .data⟩ (by simp) rfl)
      unfold frT6
      go_wp2_with fail
      exact HQ _ (.pointer (some ⟨fb, 1, none⟩)) _ (by simp only [frT6, upd1, r1, Nat.reduceEqDiff, reduceIte]) trivial rfl hC
    · have HQ := fun (a' : Act) (va : Value) (w' : World) (h1 : a' = frT6 fb eb zb n0 cap q k u t r v pb (upd1 gs 35 va)) h2 (h3 : laysT6 fb eb n0 cap q u hd 3 va w') h4 => hQ.out a' w' ⟨va, h1, h2, h3, h4⟩
      have r2 : gs 34 = .pointer (some ⟨fb, 1, none⟩) := hR 2 (hdeps ⟨2, .data⟩ (by simp) rfl)
      have b0 := (hC.1.block _ lf).trans B3.out
      obtain ⟨c0, c1⟩ := two_at b0
      have lw1 : fb < w1.heap.size := lt_of_heap b0
      unfold frT6
      go_wp2_with fail
      exact HQ _ (.slice q n0 cap) _ (by simp only [frT6, upd1, r2, Nat.reduceEqDiff, reduceIte]) trivial rfl hC
    · have HQ := fun (a' : Act) (va : Value) (w' : World) (h1 : a' = frT6 fb eb zb n0 cap q k u t r v pb (upd1 gs 36 va)) h2 (h3 : laysT6 fb eb n0 cap q u hd 4 va w') h4 => hQ.out a' w' ⟨va, h1, h2, h3, h4⟩
      have r3 : gs 35 = .slice q n0 cap := hR 3 (hdeps ⟨3, .data⟩ (by simp) rfl)
      unfold frT6
      go_wp2_with fail
      exact HQ _ (.int .i64 n0) _ (by simp only [frT6, upd1, r3, Nat.reduceEqDiff, reduceIte]) trivial rfl hC
    · have HQ := fun (a' : Act) (va : Value) (w' : World) (h1 : a' = frT6 fb eb zb n0 cap q k u t r v pb (upd1 gs 37 va)) h2 (h3 : laysT6 fb eb n0 cap q u hd 5 va w') h4 => hQ.out a' w' ⟨va, h1, h2, h3, h4⟩
      have r4 : gs 36 = .int .i64 n0 := hR 4 (hdeps ⟨4, .data⟩ (by simp) rfl)
      unfold frT6
      go_wp2_with fail
      exact HQ _ (.int .i64 ((n0 : Int) + 1)) _ (by simp only [frT6, upd1, r4, Nat.reduceEqDiff, reduceIte]) trivial rfl hC
    · have HQ := fun (a' : Act) (va : Value) (w' : World) (h1 : a' = frT6 fb eb zb n0 cap q k u t r v pb (upd1 gs 38 va)) h2 (h3 : laysT6 fb eb n0 cap q u hd 6 va w') h4 => hQ.out a' w' ⟨va, h1, h2, h3, h4⟩
      unfold frT6
      go_wp2_with fail
      exact HQ _ (.pointer (some ⟨eb, 1, none⟩)) _ (by simp only [frT6, upd1, Nat.reduceEqDiff, reduceIte]) trivial rfl hC
    · have HQ := fun (a' : Act) (va : Value) (w' : World) (h1 : a' = frT6 fb eb zb n0 cap q k u t r v pb (upd1 gs 39 va)) h2 (h3 : laysT6 fb eb n0 cap q u hd 7 va w') h4 => hQ.out a' w' ⟨va, h1, h2, h3, h4⟩
      have r6 : gs 38 = .pointer (some ⟨eb, 1, none⟩) := hR 6 (hdeps ⟨6, .data⟩ (by simp) rfl)
      have b0 := (hC.1.block _ le3).trans E3.out
      have c1 := (ev5 (e := ⟨k, u, t, r, v⟩) b0).2.1
      dsimp only at c1
      have lw1 : eb < w1.heap.size := lt_of_heap b0
      unfold frT6
      go_wp2_with fail
      exact HQ _ (.string u) _ (by simp only [frT6, upd1, r6, Nat.reduceEqDiff, reduceIte]) trivial rfl hC
    · have HQ := fun (a' : Act) (va : Value) (w' : World) (h1 : a' = frT6 fb eb zb n0 cap q k u t r v pb (upd1 gs 40 va)) h2 (h3 : laysT6 fb eb n0 cap q u hd 8 va w') h4 => hQ.out a' w' ⟨va, h1, h2, h3, h4⟩
      unfold frT6
      go_wp2_with fail
      exact HQ _ (.pointer (some ⟨fb, 0, none⟩)) _ (by simp only [frT6, upd1, Nat.reduceEqDiff, reduceIte]) trivial rfl hC
    · have HQ := fun (a' : Act) (va : Value) (w' : World) (h1 : a' = frT6 fb eb zb n0 cap q k u t r v pb (upd1 gs 41 va)) h2 (h3 : laysT6 fb eb n0 cap q u hd 9 va w') h4 => hQ.out a' w' ⟨va, h1, h2, h3, h4⟩
      have r8 : gs 40 = .pointer (some ⟨fb, 0, none⟩) := hR 8 (hdeps ⟨8, .data⟩ (by simp) rfl)
      unfold frT6
      go_wp2_with fail
      refine (HD w1 hC.1).mono ?_
      rintro _ w4 ⟨rfl, hx⟩
      go_wp2_with fail
      exact HQ _ (.string hd) _ (by simp only [frT6, upd1, r8, Nat.reduceEqDiff, reduceIte]) trivial rfl (newR.ext hC hx)
    · have HQ := fun (a' : Act) (va : Value) (w' : World) (h1 : a' = frT6 fb eb zb n0 cap q k u t r v pb (upd1 gs 42 va)) h2 (h3 : laysT6 fb eb n0 cap q u hd 10 va w') h4 => hQ.out a' w' ⟨va, h1, h2, h3, h4⟩
      have r5 : gs 37 = .int .i64 ((n0 : Int) + 1) := hR 5 (hdeps ⟨5, .data⟩ (by simp) rfl)
      have r7 : gs 39 = .string u := hR 7 (hdeps ⟨7, .data⟩ (by simp) rfl)
      have r9 : gs 41 = .string hd := hR 9 (hdeps ⟨9, .data⟩ (by simp) rfl)
      unfold frT6
      go_wp2_with fail
      exact HQ _ (.agg #[.int .i64 ((n0 : Int) + 1), .string u, .int .i64 0, .string hd, .string ⟨#[]⟩]) _ (by simp only [frT6, upd1, r5, r7, r9, Nat.reduceEqDiff, reduceIte]) trivial rfl hC
    · have HQ := fun (a' : Act) (va : Value) (w' : World) (h1 : a' = frT6 fb eb zb n0 cap q k u t r v pb (upd1 gs 8 va)) h2 (h3 : laysT6 fb eb n0 cap q u hd 11 va w') h4 => hQ.out a' w' ⟨va, h1, h2, h3, h4⟩
      unfold frT6
      go_wp2_with fail
      exact HQ _ (.pointer (some ⟨w1.heap.size, 0, none⟩)) _ (by simp only [frT6, upd1, Nat.reduceEqDiff, reduceIte]) trivial ⟨_, rfl⟩ (newR.made hC hLi)
    · have HQ := fun (a' : Act) (va : Value) (w' : World) (h1 : a' = frT6 fb eb zb n0 cap q k u t r v pb (upd1 gs 1012 va)) h2 (h3 : laysT6 fb eb n0 cap q u hd 12 va w') h4 => hQ.out a' w' ⟨va, h1, h2, h3, h4⟩
      have r10 : gs 42 = .agg #[.int .i64 ((n0 : Int) + 1), .string u, .int .i64 0, .string hd, .string ⟨#[]⟩] := hR 10 (hdeps ⟨10, .data⟩ (by simp) rfl)
      have r11 := hR 11 (hdeps ⟨11, .data⟩ (by simp) rfl)
      obtain ⟨p, hp⟩ := r11
      change gs 8 = _ at hp
      have l11 : L 11 = true := hdeps ⟨11, .data⟩ (by simp) rfl
      obtain ⟨p', hp', hpl, hpb⟩ := hC.2.2 l11
      rw [hp] at hp'
      injection hp' with hp'
      injection hp' with hp'
      injection hp' with hp'
      subst hp'
      have hLi' : L 12 = false := hLi
      rw [hLi'] at hpb
      have hpb : w1.heap[p]? = some (.cells #[.int .i64 0, .string ⟨#[]⟩, .int .i64 0, .string ⟨#[]⟩, .string ⟨#[]⟩] 108 (0, 0)) := hpb
      have lw1 := lt_of_heap hpb
      have ff := free_of_heap hpb
      have HPB := Lib.hid hpb
      obtain ⟨z0, z1, z2, z3, z4⟩ := rec_cells (r := ⟨0, ⟨#[]⟩, 0, ⟨#[]⟩, ⟨#[]⟩⟩) hpb
      dsimp only at z0 z1 z2 z3 z4
      clear hpb
      unfold frT6
      go_wp2_with fail
      exact HQ _ undef _ (by simp only [frT6, upd1, r10, hp, Nat.reduceEqDiff, reduceIte]) trivial trivial (newR.done hC l11 hp HPB.out)
  intro L6 g6 w4 hall hR hC

  obtain ⟨p8, hp8, hpl, hpb⟩ := hC.2.2 (hall 11 (by decide))
  have P8 := Lib.hid hpl
  have LE2 := Lib.hid le3
  rw [hall 12 (by decide), if_pos rfl] at hpb
  have HPB := Lib.hid hpb
  have B4 := Lib.hid hC.1
  have F4 := Lib.hid (F3.out.ext (ext_of hC.1))
  have V4 := Lib.hid (V3.out.ext (ext_of hC.1))
  have G4 := Lib.hid (G3.out.ext (ext_of hC.1))
  have E4 := Lib.hid ((hC.1.block _ le3).trans E3.out)
  have Z4 := Lib.hid ((hC.1.block _ (lt_of_heap Z3.out)).trans Z3.out)
  have GV := Lib.hid (G4.out.sub (G := V) fun i h => .inl h)
  have X4 := Lib.hid (ext_trans X3.out (ext_of hC.1))
  clear hC hall hR hpb HD le3 lf F3 V3 G3 X3 E3 Z3 B3 hpl
  unfold frT6
  rw [hp8]
  clear hp8
  obtain ⟨c0, c1, c2, c3, c4⟩ := ev5 (e := ⟨k, u, t, r, v⟩) E4.out
  dsimp only at c0 c1 c2 c3 c4
  have le4 := lt_of_heap E4.out
  obtain ⟨q4, cap4, h1, h2, h3, h4⟩ := F4.out.at_
  obtain ⟨d0, d1⟩ := two_at h1
  have lf := lt_of_heap h1
  have h1' := h1
  have VL := Lib.hid (show ∀ i, V i → i < eb from HVL.out)
  have FK := fun W hV => vforget_in u W V vb n sec many has hV hz.1
  rw [if_pos HHS.out] at FK
  have FK := Lib.hid FK
  clear h1 h2 h3 h4
  have hfbV : ¬ V fb := fun h => AP.out _ h F4.out.fb_
  have hebV : ¬ V eb := fun h => Nat.lt_irrefl _ (VL.out _ h)
  have FB4 := Lib.hid (show w4.heap[fb]? = some (.cells #[.pointer (some ⟨vb, 0, none⟩), .slice q4 L.length cap4] 90 (0, 0)) from h1')
  go_wp2_with fail
  refine wp_region_tail 6 (by kernel_rfl) (by kernel_rfl) ?_
  simp only [List.take_succ_cons, List.take_zero, List.drop_succ_cons, List.drop_zero]
  repeat (go_big_quiet_step (fail))
  refine wpQuiet_nil ?_
  rintro _ ⟨x, rfl⟩
  have HX : Hid (∃ x', ext w4 x = ext w4 x') := Lib.hid ⟨x, rfl⟩
  generalize ext w4 x = wx at HX ⊢
  have FK := FK.out
  clear d0 d1 c0 c1 c2 c3 c4
  go_wp2_with fail
  refine (FK wx (V4.out.ext HX.out)).mono ?_
  rintro _ w5 ⟨rfl, hv5, hs5⟩
  have hC1 := (step.of_ext V HX.out).trans hs5
  have V5 := Lib.hid hv5
  have hp8V : ¬ V p8 := fun h => by have := VL.out _ h; have := LE2.out; have := P8.out; omega
  have hzbV : ¬ V zb := fun h => by have := VL.out _ h; omega
  have HP5 := Lib.hid ((hC1.keep (lt_of_heap HPB.out) hp8V).1.trans HPB.out)
  have Z5 := Lib.hid ((hC1.keep (lt_of_heap Z4.out) hzbV).1.trans Z4.out)
  have F5 := Lib.hid (F4.out.step hC1 AP.out)
  have ST5 := Lib.hid hC1
  clear hC1 hs5 hv5 HX HPB E4 Z4 F4 V4 GV FB4 lf le4 FK
  obtain ⟨z0, z1, z2, z3, z4⟩ := rec_cells (r := ⟨(n0 : Int) + 1, u, 0, hd, ⟨#[]⟩⟩) HP5.out
  dsimp only at z0 z1 z2 z3 z4
  have lp := lt_of_heap HP5.out
  have ff := free_of_heap HP5.out
  have HP7 : Hid ((w5.setCell ⟨p8, 4, none⟩ (.string pb)).heap[p8]? = some (.cells #[.int .i64 ((n0 : Int) + 1), .string u, .int .i64 0, .string hd, .string pb] 108 (0, 0))) := Lib.hid (heap_setCell (i := 4) HP5.out _)
  have GP6 := Lib.hid (grown_setCell w5 p8 4 (.string pb))
  have B56 := Lib.hid (show w5.heap.size = (w5.setCell ⟨p8, 4, none⟩ (.string pb)).heap.size by simp)
  go_wp2_with fail
  generalize (w5.setCell ⟨p8, 4, none⟩ (.string pb)) = w7 at HP7 GP6 B56 ⊢
  clear z0 z1 z2 z3 z4 lp ff HP5
  have hnone7 : True := trivial
  have KS5 := Lib.hid (((step.of_ext (fun i => V i ∨ R i) X4.out)).trans (ST5.out.same (fun i hi => .inl hi)))
  have hebW : w.heap.size = eb := hebE
  have lp8 : w.heap.size ≤ p8 := by have := LE2.out; have := P8.out; omega
  have KS7 := Lib.hid (KS5.out.put GP6.out (.inr lp8))
  have RL : ∀ i, R i → i ≠ p8 := fun i hi e => by have := HRL.out i hi; omega
  have F7 := Lib.hid (F5.out.same (w' := w7) (fun i hi => GP6.out.block i (F5.out.lt i hi) (fun e => RL i hi (by injection e))) GP6.out.size)
  have VLp : ∀ i, V i → i ≠ p8 := fun i hi e => by have := VL.out i hi; omega
  have V7 := Lib.hid (V5.out.same (w' := w7) (fun i hi => GP6.out.block i (V5.out.lt i hi) (fun e => VLp i hi (by injection e))) GP6.out.size)
  have hzbp : zb ≠ p8 := fun e => by have := P8.out; have := S3.out; omega
  have Z7 := Lib.hid ((GP6.out.block zb (lt_of_heap Z5.out) (fun e => hzbp (by injection e))).trans Z5.out)
  clear KS5 F5 V5 Z5 GP6 B56 RL VLp ST5
  clear h1'
  obtain ⟨q7, cap7, h1, h2, h3, h4⟩ := F7.out.at_
  rw [hnl] at h1 h2
  have FB7 := Lib.hid h1
  have CL := fun W => clip_any q7 n0 cap7 W h2
  obtain ⟨iR, hiR, hzR1, hzR2, hzR3⟩ := info_parts infoRec
  have hnone : q7 = none → n0 = 0 ∧ n0 = 0 := fun e => by
    rcases h3 with h3 | ⟨g, o, hq, _⟩
    · rw [h3] at hnl; simp at hnl; omega
    · rw [e] at hq; cases hq
  have OLDS : ∀ W, w7.grownBy W (some fb) → ∀ b, q7 = some b → ∀ j u, (flatRec L)[j]? = some u → W.cell? (b.add j) = some u := fun W hg b hb j u hj => by
    subst hb
    exact (recs_flat (recsAt_same h3 (fun a ha => by
      cases ha
      rcases h3 with h3 | ⟨g, o, hq, hg', _⟩
      · subst h3; simp [flatRec] at hj
      · cases hq
        exact hg.block _ hg' (fun e => (h4 _ rfl).2 (by injection e))) hg.size) j u hj).2
  have hold5 : (flatRec L).length = n0 * 5 := by rw [flatRec_length, hnl]
  have APP : ∀ base v W, W.ownsRow base 108 5 v (n0 + 1) (flatRec L ++ recVs ⟨(n0 : Int) + 1, u, 0, hd, pb⟩) → ownsRl W base v (L ++ [⟨(n0 : Int) + 1, u, 0, hd, pb⟩]) := fun base v W h => by
    unfold ownsRl; rw [flatRec_append, List.length_append, hnl]; exact h
  have HLr : Hid (∀ X, X = L ++ [(⟨(n0 : Int) + 1, u, 0, hd, pb⟩ : Rec)] → X = L ++ [⟨(n0 : Int) + 1, u, 0, hd, pb⟩]) := Lib.hid fun _ h => h
  generalize hLr : L ++ [(⟨(n0 : Int) + 1, u, 0, hd, pb⟩ : Rec)] = Lr at APP
  have HLR := Lib.hid hLr
  clear hLr HLr
  generalize flatRec L = old at hold5 APP OLDS
  have HRL2 := Lib.hid (show eb < w7.heap.size by have := lt_of_heap Z7.out; omega)
  have HRL3 := Lib.hid (lt_of_heap Z7.out)
  have HRL4 := Lib.hid FB7.out
  have lp7 := lt_of_heap HP7.out
  generalize hm7 : w7.heap.size = m7
  have hp8f : some p8 ≠ some fb := fun e => by injection e with e; have := HRL.out fb F7.out.fb_; omega
  clear h1 h2 h3 h4
  go_wp2_with fail
  refine wp_region_slots (frT29 fb eb zb n0 cap q k u t r v pb p8 g6 vb) dstT29 (fun _ => undef) (laysT29 fb n0 u pb hd q7 cap7 Lr m7) (fun L g w => stF fb vb n0 cap7 q7 w7 (L 11) (g 99) w ∧ (L 11 = true → L 4 = true ∧ L 8 = true)) (fun w w' => w.grownBy w' (some fb)) (by kernel_rfl) (by kernel_rfl) rfl ?_ (by kernel_rfl) ⟨⟨grown_drawn _ _ _, FB7.out⟩, fun h => by cases h⟩ ?_ ?_
  · exact laysT29_kept
  · refine ⟨?_, ?_, ?_, ?_, ?_, ?_, ?_, ?_, ?_, ?_, ?_, ?_, trivial⟩
    all_goals (intro L gs w1 hLi hdeps hR hC; refine ends_of fun Q hQ => ?_)
    · have HQ := fun (a' : Act) (va : Value) (w' : World) (h1 : a' = frT29 fb eb zb n0 cap q k u t r v pb p8 g6 vb (upd1 gs 91 va)) h2 (h3 : laysT29 fb n0 u pb hd q7 cap7 Lr m7 0 va w') h4 => hQ.out a' w' ⟨va, h1, h2, h3, h4⟩
      unfold frT29
      go_wp2_with fail
      exact HQ _ (.pointer (some ⟨fb, 0, none⟩)) _ (by simp only [frT29, upd1, Nat.reduceEqDiff, reduceIte]) (grown_refl _ _) rfl hC
    · have HQ := fun (a' : Act) (va : Value) (w' : World) (h1 : a' = frT29 fb eb zb n0 cap q k u t r v pb p8 g6 vb (upd1 gs 92 va)) h2 (h3 : laysT29 fb n0 u pb hd q7 cap7 Lr m7 1 va w') h4 => hQ.out a' w' ⟨va, h1, h2, h3, h4⟩
      unfold frT29
      go_wp2_with fail
      exact HQ _ (.pointer (some ⟨fb, 0, none⟩)) _ (by simp only [frT29, upd1, Nat.reduceEqDiff, reduceIte]) (grown_refl _ _) rfl hC
    · have HQ := fun (a' : Act) (va : Value) (w' : World) (h1 : a' = frT29 fb eb zb n0 cap q k u t r v pb p8 g6 vb (upd1 gs 93 va)) h2 (h3 : laysT29 fb n0 u pb hd q7 cap7 Lr m7 2 va w') h4 => hQ.out a' w' ⟨va, h1, h2, h3, h4⟩
      have r1 : gs 92 = .pointer (some ⟨fb, 0, none⟩) := hR 1 (hdeps ⟨1, .data⟩ (by simp) rfl)
      unfold frT29
      go_wp2_with fail
      exact HQ _ (.pointer (some ⟨fb, 0, none⟩)) _ (by simp only [frT29, upd1, r1, Nat.reduceEqDiff, reduceIte]) (grown_refl _ _) rfl hC
    · have HQ := fun (a' : Act) (va : Value) (w' : World) (h1 : a' = frT29 fb eb zb n0 cap q k u t r v pb p8 g6 vb (upd1 gs 94 va)) h2 (h3 : laysT29 fb n0 u pb hd q7 cap7 Lr m7 3 va w') h4 => hQ.out a' w' ⟨va, h1, h2, h3, h4⟩
      have r2 : gs 93 = .pointer (some ⟨fb, 0, none⟩) := hR 2 (hdeps ⟨2, .data⟩ (by simp) rfl)
      unfold frT29
      go_wp2_with fail
      exact HQ _ (.pointer (some ⟨fb, 1, none⟩)) _ (by simp only [frT29, upd1, r2, Nat.reduceEqDiff, reduceIte]) (grown_refl _ _) rfl hC
    · have HQ := fun (a' : Act) (va : Value) (w' : World) (h1 : a' = frT29 fb eb zb n0 cap q k u t r v pb p8 g6 vb (upd1 gs 95 va)) h2 (h3 : laysT29 fb n0 u pb hd q7 cap7 Lr m7 4 va w') h4 => hQ.out a' w' ⟨va, h1, h2, h3, h4⟩
      have r3 : gs 94 = .pointer (some ⟨fb, 1, none⟩) := hR 3 (hdeps ⟨3, .data⟩ (by simp) rfl)
      have n11 : L 11 = false := by cases h : L 11 with | false => rfl | true => exact absurd (hC.2 h).1 (by rw [show L 4 = false from hLi]; simp)
      have b0 := hC.1.2
      rw [n11] at b0
      have b0 : w1.heap[fb]? = some (.cells #[.pointer (some ⟨vb, 0, none⟩), .slice q7 n0 cap7] 90 (0, 0)) := b0
      obtain ⟨c0, c1⟩ := two_at b0
      have lw1 : fb < w1.heap.size := lt_of_heap b0
      unfold frT29
      go_wp2_with fail
      exact HQ _ (.slice q7 n0 cap7) _ (by simp only [frT29, upd1, r3, Nat.reduceEqDiff, reduceIte]) (grown_refl _ _) rfl ⟨hC.1, fun h => ⟨rfl, (hC.2 h).2⟩⟩
    · have HQ := fun (a' : Act) (va : Value) (w' : World) (h1 : a' = frT29 fb eb zb n0 cap q k u t r v pb p8 g6 vb (upd1 gs 96 va)) h2 (h3 : laysT29 fb n0 u pb hd q7 cap7 Lr m7 5 va w') h4 => hQ.out a' w' ⟨va, h1, h2, h3, h4⟩
      have r4 : gs 95 = .slice q7 n0 cap7 := hR 4 (hdeps ⟨4, .data⟩ (by simp) rfl)
      unfold frT29
      go_wp2_with fail
      refine (CL w1).mono ?_
      rintro _ wn ⟨rfl, rfl⟩
      go_wp2_with fail
      exact HQ _ (.slice q7 n0 n0) _ (by simp only [frT29, upd1, r4, Nat.reduceEqDiff, reduceIte]) (grown_refl _ _) rfl hC
    · have HQ := fun (a' : Act) (va : Value) (w' : World) (h1 : a' = frT29 fb eb zb n0 cap q k u t r v pb p8 g6 vb (upd1 gs 97 va)) h2 (h3 : laysT29 fb n0 u pb hd q7 cap7 Lr m7 6 va w') h4 => hQ.out a' w' ⟨va, h1, h2, h3, h4⟩
      have b0 := ((hC.1.1).block _ lp7 hp8f).trans HP7.out
      have lw1 := lt_of_heap b0
      obtain ⟨z0, z1, z2, z3, z4⟩ := rec_cells (r := ⟨(n0 : Int) + 1, u, 0, hd, pb⟩) b0
      dsimp only at z0 z1 z2 z3 z4
      unfold frT29
      go_wp2_with fail
      exact HQ _ (.agg #[.int .i64 ((n0 : Int) + 1), .string u, .int .i64 0, .string hd, .string pb]) _ (by simp only [frT29, upd1, Nat.reduceEqDiff, reduceIte]) (grown_refl _ _) rfl hC
    · have HQ := fun (a' : Act) (va : Value) (w' : World) (h1 : a' = frT29 fb eb zb n0 cap q k u t r v pb p8 g6 vb (upd1 gs 98 va)) h2 (h3 : laysT29 fb n0 u pb hd q7 cap7 Lr m7 7 va w') h4 => hQ.out a' w' ⟨va, h1, h2, h3, h4⟩
      have r6 : gs 97 = .agg #[.int .i64 ((n0 : Int) + 1), .string u, .int .i64 0, .string hd, .string pb] := hR 6 (hdeps ⟨6, .data⟩ (by simp) rfl)
      unfold frT29
      go_wp2_with fail
      exact HQ _ (.slice (some ⟨w1.heap.size, 0, none⟩) 1 1) _ (by simp only [frT29, upd1, r6, Nat.reduceEqDiff, reduceIte]) (World.grownBy_alloc _ _ _) ⟨_, rfl, lt_of_heap hC.1.2, heap_alloc_at w1 _⟩ ⟨hC.1.ext (ext_alloc _ (ext_refl _)), hC.2⟩
    · have HQ := fun (a' : Act) (va : Value) (w' : World) (h1 : a' = frT29 fb eb zb n0 cap q k u t r v pb p8 g6 vb (upd1 gs 99 va)) h2 (h3 : laysT29 fb n0 u pb hd q7 cap7 Lr m7 8 va w') h4 => hQ.out a' w' ⟨va, h1, h2, h3, h4⟩
      have r5 : gs 96 = .slice q7 n0 n0 := hR 5 (hdeps ⟨5, .data⟩ (by simp) rfl)
      have r7 := hR 7 (hdeps ⟨7, .data⟩ (by simp) rfl)
      have n11 : L 11 = false := by cases h : L 11 with | false => rfl | true => exact absurd (hC.2 h).2 (by rw [show L 8 = false from hLi]; simp)
      obtain ⟨p, r7, hp, hb⟩ := r7
      change gs 98 = _ at r7
      unfold frT29
      refine wpList_append_grows w1 rfl (.tmp 96) (.tmp 98) 88 rfl 108 iR (.agg (recV zeroR)) 5 64 Tryz.underlying88 hiR hzR1 hzR2 hzR3 rfl (by decide) q7 n0 n0 old (show gs 96 = _ from r5) hnone ?_ (OLDS w1 hC.1.1) ⟨p, 0, none⟩ 1 1 (recVs ⟨(n0 : Int) + 1, u, 0, hd, pb⟩) (show gs 98 = _ from r7) rfl (fun j u hj => by rw [addr_add, Nat.zero_add, cell_in, hb, ← hj]; exact List.getElem?_toArray) (by intro u hu; simp [recVs] at hu; rcases hu with rfl | rfl | rfl | rfl | rfl <;> rfl) (Nat.lt_succ_self _) (by unfold maxLen; omega) (by omega) ?_
      · exact hold5
      intro va wa OW GR
      have OW' := APP _ _ _ OW
      have X := Lib.hid (show ∃ x, wa = ext w1 x from ext_of ⟨GR.os, GR.tape, GR.output, GR.size, fun i hi => GR.block i hi (by simp)⟩)
      have NXT := Lib.hid (show stF fb vb n0 cap7 q7 w7 (L 11) va wa from by have h := hC.1; rw [n11] at h ⊢; exact (h.ext X.out).any)
      go_wp2_with fail
      exact HQ _ (va) _ (by simp only [frT29, upd1, r5, r7, Nat.reduceEqDiff, reduceIte]) (grown_below (ext_iff.1 X.out) _) ⟨_, lt_of_heap hC.1.2, Nat.le_trans (Nat.le_of_eq hm7.symm) hC.1.1.size, OW'⟩ ⟨NXT.out, fun h => ⟨(hC.2 h).1, rfl⟩⟩
    · have HQ := fun (a' : Act) (va : Value) (w' : World) (h1 : a' = frT29 fb eb zb n0 cap q k u t r v pb p8 g6 vb (upd1 gs 100 va)) h2 (h3 : laysT29 fb n0 u pb hd q7 cap7 Lr m7 9 va w') h4 => hQ.out a' w' ⟨va, h1, h2, h3, h4⟩
      have r0 : gs 91 = .pointer (some ⟨fb, 0, none⟩) := hR 0 (hdeps ⟨0, .data⟩ (by simp) rfl)
      unfold frT29
      go_wp2_with fail
      exact HQ _ (.pointer (some ⟨fb, 0, none⟩)) _ (by simp only [frT29, upd1, r0, Nat.reduceEqDiff, reduceIte]) (grown_refl _ _) rfl hC
    · have HQ := fun (a' : Act) (va : Value) (w' : World) (h1 : a' = frT29 fb eb zb n0 cap q k u t r v pb p8 g6 vb (upd1 gs 101 va)) h2 (h3 : laysT29 fb n0 u pb hd q7 cap7 Lr m7 10 va w') h4 => hQ.out a' w' ⟨va, h1, h2, h3, h4⟩
      have r9 : gs 100 = .pointer (some ⟨fb, 0, none⟩) := hR 9 (hdeps ⟨9, .data⟩ (by simp) rfl)
      unfold frT29
      go_wp2_with fail
      exact HQ _ (.pointer (some ⟨fb, 1, none⟩)) _ (by simp only [frT29, upd1, r9, Nat.reduceEqDiff, reduceIte]) (grown_refl _ _) rfl hC
    · have HQ := fun (a' : Act) (va : Value) (w' : World) (h1 : a' = frT29 fb eb zb n0 cap q k u t r v pb p8 g6 vb (upd1 gs 1011 va)) h2 (h3 : laysT29 fb n0 u pb hd q7 cap7 Lr m7 11 va w') h4 => hQ.out a' w' ⟨va, h1, h2, h3, h4⟩
      have r10 : gs 101 = .pointer (some ⟨fb, 1, none⟩) := hR 10 (hdeps ⟨10, .data⟩ (by simp) rfl)
      have l4 : L 4 = true := hdeps ⟨4, .phase⟩ (by simp) rfl
      have l8 : L 8 = true := hdeps ⟨8, .data⟩ (by simp) rfl
      have hh := hC.1
      rw [show L 11 = false from hLi] at hh
      have b0 : w1.heap[fb]? = some (.cells #[.pointer (some ⟨vb, 0, none⟩), .slice q7 n0 cap7] 90 (0, 0)) := hh.2
      obtain ⟨c0, c1⟩ := two_at b0
      have lw1 := lt_of_heap b0
      have ff := free_of_heap b0
      have HH := Lib.hid (hh.put (x := gs 99))
      obtain ⟨bs9, hbs, hbm, ow9⟩ := hR 8 (hdeps ⟨8, .data⟩ (by simp) rfl)
      obtain ⟨q9, cp9, hs9⟩ := ownsRl_shape ow9
      change gs 99 = _ at hs9
      rw [hs9] at HH
      have HS9 := Lib.hid hs9
      clear hh b0 ow9 hs9 hbs hbm
      unfold frT29
      rw [HS9.out]
      go_wp2_with fail
      exact HQ _ undef _ (by simp only [frT29, upd1, r10, HS9.out, Nat.reduceEqDiff, reduceIte]) (grown_setCell _ _ _ _) trivial ⟨(show stF fb vb n0 cap7 q7 w7 true (gs 99) _ from by rw [HS9.out]; exact HH.out), fun _ => ⟨l4, l8⟩⟩
  intro L19 g19 w8 hall hR hC

  have hC1 := hC.1
  rw [hall 11 (by decide)] at hC1
  obtain ⟨bs9, hbs, hbm, ow9⟩ : ∃ base, fb < base ∧ m7 ≤ base ∧ ownsRl w8 base (g19 99) Lr := hR 8 (by decide)
  obtain ⟨q9, cp9, hs9⟩ := ownsRl_shape ow9
  have FB8 := hC1.2
  rw [if_pos rfl, hs9] at FB8
  have FB8 := Lib.hid FB8
  rw [hs9] at ow9
  have OW9 := Lib.hid ow9
  have GP8 := Lib.hid hC1.1
  have HS9 := Lib.hid hs9
  have HP8 := Lib.hid ((hC1.1.block _ lp7 hp8f).trans HP7.out)
  have hzbf : zb ≠ fb := fun e => by have := HRL.out fb F7.out.fb_; omega
  have Z8 := Lib.hid ((hC1.1.block _ (lt_of_heap Z7.out) (fun e => hzbf (by injection e))).trans Z7.out)
  have KS8 := Lib.hid (KS7.out.put GP8.out (.inl (.inr F7.out.fb_)))
  have V8 := Lib.hid (V7.out.same (w' := w8) (fun i hi => hC1.1.block i (V7.out.lt i hi) (fun e => by injection e with e; subst e; exact hfbV hi)) hC1.1.size)
  clear hC hC1 hall hR ow9 hs9 CL hnone OLDS hold5 APP HP7 Z7 KS7 V7 FB7 lp7 hiR hzR1 hzR2 hzR3
  unfold frT29
  obtain ⟨z0, z1, z2, z3, z4⟩ := rec_cells (r := ⟨(n0 : Int) + 1, u, 0, hd, pb⟩) HP8.out
  dsimp only at z0 z1 z2 z3 z4
  obtain ⟨y0, y1, y2, y3, y4⟩ := rec_cells (r := ⟨0, ⟨#[]⟩, 0, ⟨#[]⟩, ⟨#[]⟩⟩) Z8.out
  dsimp only at y0 y1 y2 y3 y4
  have lz := lt_of_heap Z8.out
  have lp := lt_of_heap HP8.out
  have fz := free_of_heap Z8.out
  have SR := Lib.hid (setRec5 Z8.out (.int .i64 ((n0 : Int) + 1)) (.string u) (.int .i64 0) (.string hd) (.string pb))
  go_wp2_with fail
  generalize (((((w8.setCell ⟨zb, 0, none⟩ (.int .i64 ((n0 : Int) + 1))).setCell ⟨zb, 1, none⟩ (.string u)).setCell ⟨zb, 2, none⟩ (.int .i64 0)).setCell ⟨zb, 3, none⟩ (.string hd)).setCell ⟨zb, 4, none⟩ (.string pb)) = w9 at SR ⊢
  obtain ⟨SR1, SR2⟩ := SR.out
  have HT : toldR sec many has L ⟨k, u, t, r, v⟩ = ⟨(n0 : Int) + 1, u, 0, hd, pb⟩ := by
    unfold toldR
    rw [if_pos (show (⟨k, u, t, r, v⟩ : Ev).kind = 3 from HK.out), hnl, HHD.out, show mkT (printL ⟨k, u, t, r, v⟩) = pb from EPb.out]
  have HM : toldMany many has ⟨k, u, t, r, v⟩ = many := by
    unfold toldMany
    rw [if_pos (show (⟨k, u, t, r, v⟩ : Ev).kind = 3 from HK.out)]
  have HH : toldHas has ⟨k, u, t, r, v⟩ = updS has u false := by
    unfold toldHas
    dsimp only
    rw [show decide (k ≠ 3) = false from decide_eq_false (fun h => h HK.out)]
  have zsm : smallR ⟨(n0 : Int) + 1, u, 0, hd, pb⟩ := by
    have h1 := (print_short HR.out)
    refine ⟨h1.2.2, ?_, ?_⟩
    · show hd.size = 16; rw [← HHD.out]; exact headR_size L
    · show pb.size ≤ 86
      rw [← EPb.out]
      show (printL _).toArray.size ≤ 86
      rw [List.size_toArray]; have := h1.1; omega
  have hq9 : ∀ a, q9 = some a → m7 ≤ a.block ∧ a.block < w8.heap.size := fun a ha => by
    have := OW9.out.base (g := a.block) (by rw [ha]; rfl)
    omega
  have hcp : Lr.length ≤ cp9 := by
    obtain ⟨_, ⟨h1, h2⟩ | ⟨g, cap', cur, h1, _, _, h2, _⟩⟩ := OW9.out
    · rw [h2]; exact Nat.zero_le _
    · injection h1 with _ _ h1; rw [h1]; exact h2
  have hm7w : w.heap.size ≤ m7 := by rw [← hm7]; exact Nat.le_trans (by omega) (Nat.le_of_lt (HRL2.out))
  have hzm : zb < m7 := by rw [← hm7]; exact HRL3.out
  have hfm : fb < m7 := by rw [← hm7]; exact lt_of_heap (show w7.heap[fb]? = _ from HRL4.out)
  refine ret_cells rfl rfl SR1 Tryz.underlying108 rfl (by kernel_rfl) rfl rfl (HP.out _ _ ⟨by rw [HT]; rfl, fun i => R i ∨ ∃ a, q9 = some a ∧ a.block = i, ?_, ?_, ?_, ?_⟩)
  · rw [HM, HH]
    exact (V8.out.mono (by omega : n ≤ n + 2)).same (fun i hi => SR2.block i (V8.out.lt i hi) (fun e => by injection e with e; have := VL.out i hi; omega)) SR2.size
  · rw [HT, HLR.out]
    refine ⟨⟨q9, cp9, (SR2.block fb (lt_of_heap FB8.out) (fun e => hzbf (by injection e with e; exact e.symm))).trans FB8.out, hcp, ?_, fun a ha => ⟨.inr ⟨a, ha, rfl⟩, fun e => ?_⟩⟩, .inl F7.out.fb_, ?_, ?_, ?_⟩
    · exact recsAt_same (recsAt_owned OW9.out) (fun a ha => SR2.block _ (hq9 a ha).2 (fun e => by injection e with e; have := (hq9 a ha).1; omega)) SR2.size
    · have := (hq9 a ha).1; omega
    · rintro i (hi | ⟨a, ha, rfl⟩)
      · exact Nat.lt_of_lt_of_le (F7.out.lt i hi) (Nat.le_trans GP8.out.size SR2.size)
      · exact Nat.lt_of_lt_of_le (hq9 a ha).2 SR2.size
    · intro x hx
      rw [← HLR.out] at hx
      rcases List.mem_append.1 hx with hx | hx
      · exact F7.out.small x hx
      · rw [List.mem_singleton.1 hx]; exact zsm
    · rw [← HLR.out, List.length_append, hnl, List.length_singleton]; omega
  · refine (KS8.out.put SR2 (.inr (by omega))).more ?_
    rintro i (hi | hi | ⟨a, ha, rfl⟩)
    · exact .inl (.inl hi)
    · exact .inl (.inr hi)
    · have := hq9 a ha
      have := SR2.size
      exact .inr ⟨by omega, by omega⟩
  · rintro i (hi | ⟨a, ha, rfl⟩)
    · exact .inl hi
    · have := hq9 a ha
      exact .inr (by omega)
set_option maxRecDepth 100000 in
set_option maxHeartbeats 4000000 in
theorem tell_none (e : Ev) (w : World) (V R : Blk) (fb vb n : Nat) (sec : ByteArray) (many : ByteArray → Nat) (has : ByteArray → Bool) (L : List Rec) (hv : vaultIn w V vb n sec many has) (hf : feedIn w R fb vb L) (ha : apart V R) (hG : Glob w (fun i => V i ∨ R i))
    (hr : rightE okV e = true) (hk : e.kind = 3) (hh : has e.subject = false) (hz : e.subject.size ≤ 1048576 ∧ e.table.size ≤ 1048576 ∧ e.row.size ≤ 1048576) (hvz : e.value.size ≤ 1048576) (hL : L.length < 100) :
    Calls Tryz.prog 122 #[.pointer (some ⟨fb, 0, none⟩), .agg (evV e)] w (TellNo 8 e w V R fb vb n sec many has L) := by
  have PR := fun w h => print_any e w hz hvz h
  rw [hr, if_pos rfl] at PR
  rw [if_pos rfl] at PR
  have HF := Lib.hid hf
  have HV := Lib.hid hv
  have GG := Lib.hid hG
  have AP := Lib.hid ha
  have HR := Lib.hid hr
  have HK := Lib.hid hk
  have hk3 : (e.kind == 3) = true := by simp [hk]
  have HHS := Lib.hid hh
  clear hh
  have hl1 : ((L.length : Int) == 100) = false := by simp; omega
  clear hf hv hG ha hr hk
  generalize ePb : (⟨(printL e).toArray⟩ : ByteArray) = pb at PR
  have EPb := Lib.hid ePb
  clear ePb
  have H2 := two_new w (.cells (evV e) 155) (.cells (recV zeroR) 108)
  have X2 := Lib.hid (ext_alloc (.cells (recV zeroR) 108) (ext_alloc (.cells (evV e) 155) (ext_refl w)))
  have HE := Lib.hid H2.1
  have HZ := Lib.hid H2.2.1
  have SZ := Lib.hid H2.2.2
  clear H2
  have HP : Hid (∀ r w', (r = .returned (.tuple #[.agg (recV zeroR), errV 8]) ∧ vaultIn w' V vb n sec many has ∧ feedIn w' R fb vb L ∧ step w w' (fun i => V i ∨ R i) (fun i => V i ∨ R i)) → TellNo 8 e w V R fb vb n sec many has L r w') := Lib.hid fun _ _ h => h
  generalize hP : TellNo 8 e w V R fb vb n sec many has L = P at HP ⊢
  clear hP
  unfold evV at PR HE HZ X2 SZ ⊢
  unfold recV zeroR at HZ HE X2 SZ
  dsimp only at HE HZ X2 SZ
  obtain ⟨k, u, t, r, v⟩ := e
  dsimp only at PR HK HHS hz hvz HE HZ X2 SZ hk3 ⊢
  go_enter Tryz.func122, Tryz.ntmps122
  go_wp2_with fail
  generalize (w.alloc (.cells #[.int .i64 k, .string u, .string t, .string r, .string v] 155)).alloc (.cells #[.int .i64 0, .string ⟨#[]⟩, .int .i64 0, .string ⟨#[]⟩, .string ⟨#[]⟩] 108) = w1 at HE HZ SZ X2 ⊢
  refine (PR _ (GG.out.ext X2.out).words).mono ?_
  rintro _ w2 ⟨rfl, hx⟩
  have X3 := Lib.hid (ext_trans X2.out hx)
  have E3 := Lib.hid (((ext_iff.1 hx).block _ (lt_of_heap HE.out)).trans HE.out)
  have Z3 := Lib.hid (((ext_iff.1 hx).block _ (lt_of_heap HZ.out)).trans HZ.out)
  have S3 := Lib.hid (Nat.le_trans (Nat.le_of_eq SZ.out.symm) (ext_iff.1 hx).size)
  have F3 := Lib.hid (HF.out.ext X3.out)
  have V3 := Lib.hid (HV.out.ext X3.out)
  have G3 := Lib.hid (GG.out.ext X3.out)
  have HVL := Lib.hid (HV.out.lt)
  have HRL := Lib.hid (HF.out.lt)
  clear hx X2 HE HZ SZ PR HF HV
  obtain ⟨q, cap, h1, h2, h3, h4⟩ := F3.out.at_
  have B3 := Lib.hid h1
  obtain ⟨c0, c1⟩ := two_at h1
  have lf := lt_of_heap h1
  clear h1 h2 h3 h4
  go_wp2_with fail
  have HD : ∀ W, Below w2.heap.size w2 W → Calls Tryz.prog 149 #[.pointer (some ⟨fb, 0, none⟩)] W fun e w' => e = .returned (.string (headR L)) ∧ ∃ x, w' = ext W x := fun W hB => fhead_any W R fb vb L (F3.out.ext (ext_of hB)) (G3.out.ext (ext_of hB)).rounds
  have HD := Lib.hid HD
  have le3 := Lib.hid (lt_of_heap E3.out)
  have hN := hL
  generalize hnl : L.length = n0 at *
  generalize hhd : headR L = hd at HD
  have HHD := Lib.hid hhd
  clear hhd
  generalize hebE : w.heap.size = eb at *
  generalize hzbE : eb + 1 = zb at *
  have HD := HD.out
  have le3 := le3.out
  clear c0 c1
  refine wp_region_slots (frT6 fb eb zb n0 cap q k u t r v pb) dstT6 (fun _ => undef) (laysT6 fb eb n0 cap q u hd) (fun L g w => newR w2 #[.int .i64 0, .string ⟨#[]⟩, .int .i64 0, .string ⟨#[]⟩, .string ⟨#[]⟩] #[.int .i64 ((n0 : Int) + 1), .string u, .int .i64 0, .string hd, .string ⟨#[]⟩] (L 11) (L 12) (g 8) w) (fun w w' => True) (by kernel_rfl) (by kernel_rfl) rfl ?_ (by kernel_rfl) (newR.start _ _ _ _) ?_ ?_
  · exact fun _ _ _ _ _ h => h
  · refine ⟨?_, ?_, ?_, ?_, ?_, ?_, ?_, ?_, ?_, ?_, ?_, ?_, ?_, trivial⟩
    all_goals (intro L gs w1 hLi hdeps hR hC; refine ends_of fun Q hQ => ?_)
    · have HQ := fun (a' : Act) (va : Value) (w' : World) (h1 : a' = frT6 fb eb zb n0 cap q k u t r v pb (upd1 gs 32 va)) h2 (h3 : laysT6 fb eb n0 cap q u hd 0 va w') h4 => hQ.out a' w' ⟨va, h1, h2, h3, h4⟩
      unfold frT6
      go_wp2_with fail
      exact HQ _ (.pointer (some ⟨fb, 0, none⟩)) _ (by simp only [frT6, upd1, Nat.reduceEqDiff, reduceIte]) trivial rfl hC
    · have HQ := fun (a' : Act) (va : Value) (w' : World) (h1 : a' = frT6 fb eb zb n0 cap q k u t r v pb (upd1 gs 33 va)) h2 (h3 : laysT6 fb eb n0 cap q u hd 1 va w') h4 => hQ.out a' w' ⟨va, h1, h2, h3, h4⟩
      have r0 : gs 32 = .pointer (some ⟨fb, 0, none⟩) := hR 0 (hdeps ⟨0, .data⟩ (by simp) rfl)
      unfold frT6
      go_wp2_with fail
      exact HQ _ (.pointer (some ⟨fb, 0, none⟩)) _ (by simp only [frT6, upd1, r0, Nat.reduceEqDiff, reduceIte]) trivial rfl hC
    · have HQ := fun (a' : Act) (va : Value) (w' : World) (h1 : a' = frT6 fb eb zb n0 cap q k u t r v pb (upd1 gs 34 va)) h2 (h3 : laysT6 fb eb n0 cap q u hd 2 va w') h4 => hQ.out a' w' ⟨va, h1, h2, h3, h4⟩
      have r1 : gs 33 = .pointer (some ⟨fb, 0, none⟩) := hR 1 (hdeps ⟨1, .data⟩ (by simp) rfl)
      unfold frT6
      go_wp2_with fail
      exact HQ _ (.pointer (some ⟨fb, 1, none⟩)) _ (by simp only [frT6, upd1, r1, Nat.reduceEqDiff, reduceIte]) trivial rfl hC
    · have HQ := fun (a' : Act) (va : Value) (w' : World) (h1 : a' = frT6 fb eb zb n0 cap q k u t r v pb (upd1 gs 35 va)) h2 (h3 : laysT6 fb eb n0 cap q u hd 3 va w') h4 => hQ.out a' w' ⟨va, h1, h2, h3, h4⟩
      have r2 : gs 34 = .pointer (some ⟨fb, 1, none⟩) := hR 2 (hdeps ⟨2, .data⟩ (by simp) rfl)
      have b0 := (hC.1.block _ lf).trans B3.out
      obtain ⟨c0, c1⟩ := two_at b0
      have lw1 : fb < w1.heap.size := lt_of_heap b0
      unfold frT6
      go_wp2_with fail
      exact HQ _ (.slice q n0 cap) _ (by simp only [frT6, upd1, r2, Nat.reduceEqDiff, reduceIte]) trivial rfl hC
    · have HQ := fun (a' : Act) (va : Value) (w' : World) (h1 : a' = frT6 fb eb zb n0 cap q k u t r v pb (upd1 gs 36 va)) h2 (h3 : laysT6 fb eb n0 cap q u hd 4 va w') h4 => hQ.out a' w' ⟨va, h1, h2, h3, h4⟩
      have r3 : gs 35 = .slice q n0 cap := hR 3 (hdeps ⟨3, .data⟩ (by simp) rfl)
      unfold frT6
      go_wp2_with fail
      exact HQ _ (.int .i64 n0) _ (by simp only [frT6, upd1, r3, Nat.reduceEqDiff, reduceIte]) trivial rfl hC
    · have HQ := fun (a' : Act) (va : Value) (w' : World) (h1 : a' = frT6 fb eb zb n0 cap q k u t r v pb (upd1 gs 37 va)) h2 (h3 : laysT6 fb eb n0 cap q u hd 5 va w') h4 => hQ.out a' w' ⟨va, h1, h2, h3, h4⟩
      have r4 : gs 36 = .int .i64 n0 := hR 4 (hdeps ⟨4, .data⟩ (by simp) rfl)
      unfold frT6
      go_wp2_with fail
      exact HQ _ (.int .i64 ((n0 : Int) + 1)) _ (by simp only [frT6, upd1, r4, Nat.reduceEqDiff, reduceIte]) trivial rfl hC
    · have HQ := fun (a' : Act) (va : Value) (w' : World) (h1 : a' = frT6 fb eb zb n0 cap q k u t r v pb (upd1 gs 38 va)) h2 (h3 : laysT6 fb eb n0 cap q u hd 6 va w') h4 => hQ.out a' w' ⟨va, h1, h2, h3, h4⟩
      unfold frT6
      go_wp2_with fail
      exact HQ _ (.pointer (some ⟨eb, 1, none⟩)) _ (by simp only [frT6, upd1, Nat.reduceEqDiff, reduceIte]) trivial rfl hC
    · have HQ := fun (a' : Act) (va : Value) (w' : World) (h1 : a' = frT6 fb eb zb n0 cap q k u t r v pb (upd1 gs 39 va)) h2 (h3 : laysT6 fb eb n0 cap q u hd 7 va w') h4 => hQ.out a' w' ⟨va, h1, h2, h3, h4⟩
      have r6 : gs 38 = .pointer (some ⟨eb, 1, none⟩) := hR 6 (hdeps ⟨6, .data⟩ (by simp) rfl)
      have b0 := (hC.1.block _ le3).trans E3.out
      have c1 := (ev5 (e := ⟨k, u, t, r, v⟩) b0).2.1
      dsimp only at c1
      have lw1 : eb < w1.heap.size := lt_of_heap b0
      unfold frT6
      go_wp2_with fail
      exact HQ _ (.string u) _ (by simp only [frT6, upd1, r6, Nat.reduceEqDiff, reduceIte]) trivial rfl hC
    · have HQ := fun (a' : Act) (va : Value) (w' : World) (h1 : a' = frT6 fb eb zb n0 cap q k u t r v pb (upd1 gs 40 va)) h2 (h3 : laysT6 fb eb n0 cap q u hd 8 va w') h4 => hQ.out a' w' ⟨va, h1, h2, h3, h4⟩
      unfold frT6
      go_wp2_with fail
      exact HQ _ (.pointer (some ⟨fb, 0, none⟩)) _ (by simp only [frT6, upd1, Nat.reduceEqDiff, reduceIte]) trivial rfl hC
    · have HQ := fun (a' : Act) (va : Value) (w' : World) (h1 : a' = frT6 fb eb zb n0 cap q k u t r v pb (upd1 gs 41 va)) h2 (h3 : laysT6 fb eb n0 cap q u hd 9 va w') h4 => hQ.out a' w' ⟨va, h1, h2, h3, h4⟩
      have r8 : gs 40 = .pointer (some ⟨fb, 0, none⟩) := hR 8 (hdeps ⟨8, .data⟩ (by simp) rfl)
      unfold frT6
      go_wp2_with fail
      refine (HD w1 hC.1).mono ?_
      rintro _ w4 ⟨rfl, hx⟩
      go_wp2_with fail
      exact HQ _ (.string hd) _ (by simp only [frT6, upd1, r8, Nat.reduceEqDiff, reduceIte]) trivial rfl (newR.ext hC hx)
    · have HQ := fun (a' : Act) (va : Value) (w' : World) (h1 : a' = frT6 fb eb zb n0 cap q k u t r v pb (upd1 gs 42 va)) h2 (h3 : laysT6 fb eb n0 cap q u hd 10 va w') h4 => hQ.out a' w' ⟨va, h1, h2, h3, h4⟩
      have r5 : gs 37 = .int .i64 ((n0 : Int) + 1) := hR 5 (hdeps ⟨5, .data⟩ (by simp) rfl)
      have r7 : gs 39 = .string u := hR 7 (hdeps ⟨7, .data⟩ (by simp) rfl)
      have r9 : gs 41 = .string hd := hR 9 (hdeps ⟨9, .data⟩ (by simp) rfl)
      unfold frT6
      go_wp2_with fail
      exact HQ _ (.agg #[.int .i64 ((n0 : Int) + 1), .string u, .int .i64 0, .string hd, .string ⟨#[]⟩]) _ (by simp only [frT6, upd1, r5, r7, r9, Nat.reduceEqDiff, reduceIte]) trivial rfl hC
    · have HQ := fun (a' : Act) (va : Value) (w' : World) (h1 : a' = frT6 fb eb zb n0 cap q k u t r v pb (upd1 gs 8 va)) h2 (h3 : laysT6 fb eb n0 cap q u hd 11 va w') h4 => hQ.out a' w' ⟨va, h1, h2, h3, h4⟩
      unfold frT6
      go_wp2_with fail
      exact HQ _ (.pointer (some ⟨w1.heap.size, 0, none⟩)) _ (by simp only [frT6, upd1, Nat.reduceEqDiff, reduceIte]) trivial ⟨_, rfl⟩ (newR.made hC hLi)
    · have HQ := fun (a' : Act) (va : Value) (w' : World) (h1 : a' = frT6 fb eb zb n0 cap q k u t r v pb (upd1 gs 1012 va)) h2 (h3 : laysT6 fb eb n0 cap q u hd 12 va w') h4 => hQ.out a' w' ⟨va, h1, h2, h3, h4⟩
      have r10 : gs 42 = .agg #[.int .i64 ((n0 : Int) + 1), .string u, .int .i64 0, .string hd, .string ⟨#[]⟩] := hR 10 (hdeps ⟨10, .data⟩ (by simp) rfl)
      have r11 := hR 11 (hdeps ⟨11, .data⟩ (by simp) rfl)
      obtain ⟨p, hp⟩ := r11
      change gs 8 = _ at hp
      have l11 : L 11 = true := hdeps ⟨11, .data⟩ (by simp) rfl
      obtain ⟨p', hp', hpl, hpb⟩ := hC.2.2 l11
      rw [hp] at hp'
      injection hp' with hp'
      injection hp' with hp'
      injection hp' with hp'
      subst hp'
      have hLi' : L 12 = false := hLi
      rw [hLi'] at hpb
      have hpb : w1.heap[p]? = some (.cells #[.int .i64 0, .string ⟨#[]⟩, .int .i64 0, .string ⟨#[]⟩, .string ⟨#[]⟩] 108 (0, 0)) := hpb
      have lw1 := lt_of_heap hpb
      have ff := free_of_heap hpb
      have HPB := Lib.hid hpb
      obtain ⟨z0, z1, z2, z3, z4⟩ := rec_cells (r := ⟨0, ⟨#[]⟩, 0, ⟨#[]⟩, ⟨#[]⟩⟩) hpb
      dsimp only at z0 z1 z2 z3 z4
      clear hpb
      unfold frT6
      go_wp2_with fail
      exact HQ _ undef _ (by simp only [frT6, upd1, r10, hp, Nat.reduceEqDiff, reduceIte]) trivial trivial (newR.done hC l11 hp HPB.out)
  intro L6 g6 w4 hall hR hC

  obtain ⟨p8, hp8, hpl, hpb⟩ := hC.2.2 (hall 11 (by decide))
  have P8 := Lib.hid hpl
  have LE2 := Lib.hid le3
  rw [hall 12 (by decide), if_pos rfl] at hpb
  have HPB := Lib.hid hpb
  have B4 := Lib.hid hC.1
  have F4 := Lib.hid (F3.out.ext (ext_of hC.1))
  have V4 := Lib.hid (V3.out.ext (ext_of hC.1))
  have G4 := Lib.hid (G3.out.ext (ext_of hC.1))
  have E4 := Lib.hid ((hC.1.block _ le3).trans E3.out)
  have Z4 := Lib.hid ((hC.1.block _ (lt_of_heap Z3.out)).trans Z3.out)
  have GV := Lib.hid (G4.out.sub (G := V) fun i h => .inl h)
  have X4 := Lib.hid (ext_trans X3.out (ext_of hC.1))
  clear hC hall hR hpb HD le3 lf F3 V3 G3 X3 E3 Z3 B3 hpl
  unfold frT6
  rw [hp8]
  clear hp8
  obtain ⟨c0, c1, c2, c3, c4⟩ := ev5 (e := ⟨k, u, t, r, v⟩) E4.out
  dsimp only at c0 c1 c2 c3 c4
  have le4 := lt_of_heap E4.out
  obtain ⟨q4, cap4, h1, h2, h3, h4⟩ := F4.out.at_
  obtain ⟨d0, d1⟩ := two_at h1
  have lf := lt_of_heap h1
  have h1' := h1
  have VL := Lib.hid (show ∀ i, V i → i < eb from HVL.out)
  have FK := fun W hV => vforget_in u W V vb n sec many has hV hz.1
  rw [if_neg (by rw [HHS.out]; simp)] at FK
  have FK := Lib.hid FK
  clear h1 h2 h3 h4
  have hfbV : ¬ V fb := fun h => AP.out _ h F4.out.fb_
  have FB4 := Lib.hid (show w4.heap[fb]? = some (.cells #[.pointer (some ⟨vb, 0, none⟩), .slice q4 L.length cap4] 90 (0, 0)) from h1')
  go_wp2_with fail
  refine wp_region_tail 6 (by kernel_rfl) (by kernel_rfl) ?_
  simp only [List.take_succ_cons, List.take_zero, List.drop_succ_cons, List.drop_zero]
  repeat (go_big_quiet_step (fail))
  refine wpQuiet_nil ?_
  rintro _ ⟨x, rfl⟩
  have HX : Hid (∃ x', ext w4 x = ext w4 x') := Lib.hid ⟨x, rfl⟩
  generalize ext w4 x = wx at HX ⊢
  have FK := FK.out
  clear d0 d1 c0 c1 c2 c3 c4
  go_wp2_with fail
  refine (FK wx (V4.out.ext HX.out)).mono ?_
  rintro _ w5 ⟨rfl, hv5, hs5⟩
  have hC1 := (step.of_ext V HX.out).trans hs5
  have hsame : updS has u false = has := funext fun s => by
    by_cases hs : s = u
    · rw [hs, updS_same]; exact HHS.out.symm
    · exact updS_other _ _ hs
  rw [hsame] at hv5
  have V5 := Lib.hid hv5
  have hzbV : ¬ V zb := fun h => by have := VL.out _ h; omega
  have Z5 := Lib.hid ((hC1.keep (lt_of_heap Z4.out) hzbV).1.trans Z4.out)
  have F5 := Lib.hid (F4.out.step hC1 AP.out)
  have ST5 := Lib.hid hC1
  clear hC1 hs5 hv5 HX HPB E4 Z4 F4 V4 GV FB4 lf le4 FK hsame
  obtain ⟨y0, y1, y2, y3, y4⟩ := rec_cells (r := ⟨0, ⟨#[]⟩, 0, ⟨#[]⟩, ⟨#[]⟩⟩) Z5.out
  dsimp only at y0 y1 y2 y3 y4
  have lz := lt_of_heap Z5.out
  have fz := free_of_heap Z5.out
  have SR := Lib.hid (setRec5 Z5.out (.int .i64 0) (.string ⟨#[]⟩) (.int .i64 0) (.string ⟨#[]⟩) (.string ⟨#[]⟩))
  go_wp2_with fail
  generalize (((((w5.setCell ⟨zb, 0, none⟩ (.int .i64 0)).setCell ⟨zb, 1, none⟩ (.string ⟨#[]⟩)).setCell ⟨zb, 2, none⟩ (.int .i64 0)).setCell ⟨zb, 3, none⟩ (.string ⟨#[]⟩)).setCell ⟨zb, 4, none⟩ (.string ⟨#[]⟩)) = w9 at SR ⊢
  obtain ⟨SR1, SR2⟩ := SR.out
  have KS5 := ((step.of_ext (fun i => V i ∨ R i) X4.out)).trans (ST5.out.same (fun i hi => .inl hi))
  have hebW : w.heap.size = eb := hebE
  refine ret_cells rfl rfl SR1 Tryz.underlying108 rfl (by kernel_rfl) rfl rfl (HP.out _ _ ⟨rfl, ?_, ?_, KS5.put SR2 (.inr (by omega))⟩)
  · exact V5.out.same (fun i hi => SR2.block i (V5.out.lt i hi) (fun e => by injection e with e; have := VL.out i hi; omega)) SR2.size
  · exact F5.out.same (fun i hi => SR2.block i (F5.out.lt i hi) (fun e => by injection e with e; have := HRL.out i hi; omega)) SR2.size
set_option maxRecDepth 100000 in
set_option maxHeartbeats 4000000 in
theorem tell_bad (e : Ev) (w : World) (V R : Blk) (fb vb n : Nat) (sec : ByteArray) (many : ByteArray → Nat) (has : ByteArray → Bool) (L : List Rec) (hv : vaultIn w V vb n sec many has) (hf : feedIn w R fb vb L) (hr : rightE okV e = false) (hz : e.subject.size ≤ 1048576 ∧ e.table.size ≤ 1048576 ∧ e.row.size ≤ 1048576) :
    Calls Tryz.prog 122 #[.pointer (some ⟨fb, 0, none⟩), .agg (evV e)] w (TellNo 1 e w V R fb vb n sec many has L) := by
  have PR := fun w => print_bad e w hz hr
  have HF := Lib.hid hf
  have HV := Lib.hid hv
  clear hf hv hr
  have H2 := two_new w (.cells (evV e) 155) (.cells (recV zeroR) 108)
  have X2 := Lib.hid (ext_alloc (.cells (recV zeroR) 108) (ext_alloc (.cells (evV e) 155) (ext_refl w)))
  have HZ := Lib.hid H2.2.1
  clear H2
  have HP : Hid (∀ r w', (r = .returned (.tuple #[.agg (recV zeroR), errV 1]) ∧ vaultIn w' V vb n sec many has ∧ feedIn w' R fb vb L ∧ step w w' (fun i => V i ∨ R i) (fun i => V i ∨ R i)) → TellNo 1 e w V R fb vb n sec many has L r w') := Lib.hid fun _ _ h => h
  generalize hP : TellNo 1 e w V R fb vb n sec many has L = P at HP ⊢
  clear hP
  unfold evV at PR HZ X2 ⊢
  unfold recV zeroR at HZ X2
  dsimp only at HZ X2
  obtain ⟨k, u, t, r, v⟩ := e
  dsimp only at PR hz HZ X2 ⊢
  go_enter Tryz.func122, Tryz.ntmps122
  go_wp2_with fail
  generalize (w.alloc (.cells #[.int .i64 k, .string u, .string t, .string r, .string v] 155)).alloc (.cells #[.int .i64 0, .string ⟨#[]⟩, .int .i64 0, .string ⟨#[]⟩, .string ⟨#[]⟩] 108) = w1 at HZ X2 ⊢
  refine (PR _).mono ?_
  rintro _ w2 ⟨rfl, hx⟩
  have X3 := Lib.hid (ext_trans X2.out hx)
  have Z5 := Lib.hid (((ext_iff.1 hx).block _ (lt_of_heap HZ.out)).trans HZ.out)
  have HRL := Lib.hid HF.out.lt
  have VL := Lib.hid HV.out.lt
  have F5 := Lib.hid (HF.out.ext X3.out)
  have V5 := Lib.hid (HV.out.ext X3.out)
  clear hx X2 HZ PR HF HV
  generalize hzbE : w.heap.size + 1 = zb at *
  obtain ⟨y0, y1, y2, y3, y4⟩ := rec_cells (r := ⟨0, ⟨#[]⟩, 0, ⟨#[]⟩, ⟨#[]⟩⟩) Z5.out
  dsimp only at y0 y1 y2 y3 y4
  have lz := lt_of_heap Z5.out
  have fz := free_of_heap Z5.out
  have SR := Lib.hid (setRec5 Z5.out (.int .i64 0) (.string ⟨#[]⟩) (.int .i64 0) (.string ⟨#[]⟩) (.string ⟨#[]⟩))
  go_wp2_with fail
  generalize (((((w2.setCell ⟨zb, 0, none⟩ (.int .i64 0)).setCell ⟨zb, 1, none⟩ (.string ⟨#[]⟩)).setCell ⟨zb, 2, none⟩ (.int .i64 0)).setCell ⟨zb, 3, none⟩ (.string ⟨#[]⟩)).setCell ⟨zb, 4, none⟩ (.string ⟨#[]⟩)) = w9 at SR ⊢
  obtain ⟨SR1, SR2⟩ := SR.out
  refine ret_cells rfl rfl SR1 Tryz.underlying108 rfl (by kernel_rfl) rfl rfl (HP.out _ _ ⟨rfl, ?_, ?_, (step.of_ext _ X3.out).put SR2 (.inr (by omega))⟩)
  · exact V5.out.same (fun i hi => SR2.block i (V5.out.lt i hi) (fun e => by injection e with e; have := VL.out i hi; omega)) SR2.size
  · exact F5.out.same (fun i hi => SR2.block i (F5.out.lt i hi) (fun e => by injection e with e; have := HRL.out i hi; omega)) SR2.size
/-- What Tell does. -/
def ToldAll (e : Ev) (w : World) (V R : Blk) (fb vb n : Nat) (sec : ByteArray) (many : ByteArray → Nat) (has : ByteArray → Bool) (L : List Rec) (r : Ending) (w' : World) : Prop :=
  (tellX has e = 0 ∧ TellPost e w V R fb vb n sec many has L r w') ∨ ((tellX has e = 1 ∨ tellX has e = 8) ∧ TellNo (tellX has e) e w V R fb vb n sec many has L r w')
theorem ftell_any (e : Ev) (w : World) (V R : Blk) (fb vb n : Nat) (sec : ByteArray) (many : ByteArray → Nat) (has : ByteArray → Bool) (L : List Rec) (hv : vaultIn w V vb n sec many has) (hf : feedIn w R fb vb L) (ha : apart V R) (hG : Glob w (fun i => V i ∨ R i))
    (hz : e.subject.size ≤ 1048576 ∧ e.table.size ≤ 1048576 ∧ e.row.size ≤ 1048576) (hvz : e.value.size ≤ 1048576) (hsec : sec.size ≤ 1048576) (hn : n ≤ 1000000) (hm : many e.subject < 1000000) (hL : L.length < 100) :
    Calls Tryz.prog 122 #[.pointer (some ⟨fb, 0, none⟩), .agg (evV e)] w (ToldAll e w V R fb vb n sec many has L) := by
  cases hr : rightE okV e with
  | false =>
    have hx : tellX has e = 1 := by unfold tellX; rw [hr]; rfl
    exact (tell_bad e w V R fb vb n sec many has L hv hf hr hz).mono fun r w' h => .inr ⟨.inl hx, by rw [hx]; exact h⟩
  | true =>
    by_cases hk : e.kind = 3
    · cases hh : has e.subject with
      | true =>
        have hx : tellX has e = 0 := by unfold tellX; rw [hr, if_neg (by simp), if_neg (by rw [hh]; simp)]
        exact (tell_gone e w V R fb vb n sec many has L hv hf ha hG hr hk hh hz hvz hL).mono fun r w' h => .inl ⟨hx, h⟩
      | false =>
        have hx : tellX has e = 8 := by unfold tellX; rw [hr, if_neg (by simp), if_pos ⟨hk, hh⟩]
        exact (tell_none e w V R fb vb n sec many has L hv hf ha hG hr hk hh hz hvz hL).mono fun r w' h => .inr ⟨.inr hx, by rw [hx]; exact h⟩
    · have hx : tellX has e = 0 := by unfold tellX; rw [hr, if_neg (by simp), if_neg (fun h => hk h.1)]
      exact (tell_put e w V R fb vb n sec many has L hv hf ha hG hr hk hz hvz hsec hn hm hL).mono fun r w' h => .inl ⟨hx, h⟩
end Go.Proofs.YtnkmckdefiblhaaGreatDoor
