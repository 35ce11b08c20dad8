/- Arguments as data: slices of events. · slices.ContainsFunc, slices.Contains at events and rows. · A table of the call's own: Apply, Get, Cells. oubliettekeep.applied (the walk). · oubliettekeep.few, TableLast's closures (the walks). -/
import Derived.Test.YtcbcknfhblamfaaGreatDoorProg
import Derived.Test.YtcbcknfhblamfaaGreatDoorG18
import Derived.Test.YtcbcknfhblamfaaGreatDoorEvRight
import Derived.Deep.Slices
import Derived.ProofKit
import Derived.Test.YtcbcknfhblamfaaGreatDoorOwnC
import Derived.Laws.StructEq
import Derived.Test.YtcbcknfhblamfaaGreatDoorG13
import Derived.Test.YtcbcknfhblamfaaGreatDoorG17
import Derived.Test.YtcbcknfhblamfaaGreatDoorG14
import Derived.Test.YtcbcknfhblamfaaGreatDoorG10
namespace Go.Proofs.YtcbcknfhblamfaaGreatDoor
open Go.ChangeShapes Go.WideShapes Go.ChangeAt Go.RowKit

instance : Inhabited Ev := ⟨⟨0, ⟨#[]⟩, ⟨#[]⟩, ⟨#[]⟩, ⟨#[]⟩⟩⟩
/-- An event's cells. -/
def evVs (e : Ev) : List Value := [.int .i64 e.kind, .string e.subject, .string e.table, .string e.row, .string e.value]
theorem addr_add (b o j : Nat) : (⟨b, o, none⟩ : Addr).add j = ⟨b, o + j, none⟩ := by unfold Addr.add; split <;> simp_all
/-- A slice of events. -/
def evsAt (w : World) (p : Option Addr) (l : List Ev) : Prop :=
  l = [] ∨ ∃ g o, p = some ⟨g, o, none⟩ ∧ g < w.heap.size ∧ ∀ j e, l[j]? = some e → ∀ i v, (evVs e)[i]? = some v → w.cell? ⟨g, o + j * 5 + i, none⟩ = some v
theorem evsAt_of {w w' : World} {p : Option Addr} {l : List Ev} (h : evsAt w p l) (hh : ∀ k, k < w.heap.size → w'.heap[k]? = w.heap[k]?) (hs : w.heap.size ≤ w'.heap.size) : evsAt w' p l := by
  rcases h with h | ⟨g, o, rfl, hg, hc⟩
  · exact .inl h
  · exact .inr ⟨g, o, rfl, Nat.lt_of_lt_of_le hg hs, fun j e hj i v hi => by have := hc j e hj i v hi; rw [cell_in] at this ⊢; rw [hh g hg]; exact this⟩
section
variable {H : Type} {enc : TypeId × Value → H}
set_option maxRecDepth 100000 in
theorem ev_of_trod {W : World} {n : Nat} {cs : List Value} {y : DataW H × List MemPlace} (h : DataW.trod enc Tryz.prog W 0 (fun _ => true) true n 33 cs = some y) : ∃ e : Ev, cs = evVs e := by
  have hs := Tryz.underlying33
  have hC : Tryz.prog.cellsOf 33 = 5 := by kernel_rfl
  cases n with
  | zero => simp [DataW.trod] at h
  | succ n =>
    obtain ⟨xs, m, _, _, hl, hlen, hf⟩ := DataW.trod_struct hs h
    rw [hC] at hl
    match cs, hl, xs, hlen with
    | [c0, c1, c2, c3, c4], _, [y0, y1, y2, y3, y4], _ =>
      have h0 := hf 0 _ rfl
      have h1 := hf 1 _ rfl
      have h2 := hf 2 _ rfl
      have h3 := hf 3 _ rfl
      have h4 := hf 4 _ rfl
      simp only [List.getElem?_cons_zero, List.getElem?_cons_succ] at h0 h1 h2 h3 h4
      obtain ⟨a0, e0, _⟩ := DataW.trod_int Tryz.underlying3 h0
      obtain ⟨a1, e1, _⟩ := DataW.trod_string Tryz.underlying9 h1
      obtain ⟨a2, e2, _⟩ := DataW.trod_string Tryz.underlying9 h2
      obtain ⟨a3, e3, _⟩ := DataW.trod_string Tryz.underlying9 h3
      obtain ⟨a4, e4, _⟩ := DataW.trod_string Tryz.underlying9 h4
      injection e0 with e0; injection e1 with e1; injection e2 with e2; injection e3 with e3; injection e4 with e4
      subst e0 e1 e2 e3 e4
      exact ⟨⟨a0, a1, a2, a3, a4⟩, rfl⟩
theorem evs_of_Trod {W : World} {q : Option Addr} {l c : Nat} {d : DataW H} {p : List MemPlace} (h : DataW.Trod enc Tryz.prog W 0 (fun _ => true) true 22 (.slice q l c) d p) :
    ∃ es : List Ev, l = es.length ∧ evsAt W q es ∧ l ≤ c ∧ c ≤ maxLen ∧ (q = none → l = 0 ∧ c = 0) := by
  have hC : Tryz.prog.cellsOf 33 = 5 := by kernel_rfl
  obtain ⟨fuel, hf⟩ := h
  rcases Go.Deep.open_slice Tryz.underlying22 hf with ⟨hcs, _⟩ | ⟨a, len, cap, m, n, D, Pl, hcs, _, hl, hm, hmm, _, hel⟩
  · simp [Value.cells] at hcs
    obtain ⟨rfl, rfl, rfl⟩ := hcs
    exact ⟨[], rfl, .inl rfl, Nat.le_refl _, Nat.zero_le _, fun _ => ⟨rfl, rfl⟩⟩
  · simp [Value.cells] at hcs
    obtain ⟨rfl, rfl, rfl⟩ := hcs
    simp only [if_true] at hmm
    subst hmm
    obtain ⟨E, hE⟩ := Go.Deep.choose_lt (α := Option Ev) (n := m) (p := fun i x => ∃ e, x = some e ∧ W.cells? 0 (a.add (i * 5)) 5 = some (evVs e)) (fun i hi => by
      obtain ⟨cs', h1, h2⟩ := hel i hi
      obtain ⟨e, rfl⟩ := ev_of_trod h2
      rw [hC] at h1
      exact ⟨some e, e, rfl, h1⟩)
    have hE' : ∀ i, i < m → ∃ e, E i = some e ∧ ∀ t v, (evVs e)[t]? = some v → W.cell? (a.add (i * 5 + t)) = some v := fun i hi => by
      obtain ⟨e, he, hcells⟩ := hE i hi
      refine ⟨e, he, fun t v hv => ?_⟩
      have ht : t < 5 := (List.getElem?_eq_some_iff.1 hv).1
      rw [← Go.Deep.add_add, (World.cells?_some hcells).2.2 t ht]; exact hv
    have hlc : l ≤ m := hl
    refine ⟨(List.range l).map fun i => (E i).getD default, by simp, ?_, hl, hm, fun e => by cases e⟩
    by_cases h0 : l = 0
    · left; subst h0; rfl
    · right
      obtain ⟨b, off, spot⟩ := a
      have hspot : spot = none := by
        obtain ⟨e, he, hc⟩ := hE' 0 (by omega)
        have := hc 0 (.int .i64 e.kind) rfl
        simpa [Addr.add] using World.cell?_spot this
      subst hspot
      have hb : b < W.heap.size := by
        obtain ⟨e, he, hc⟩ := hE' 0 (by omega)
        have := hc 0 (.int .i64 e.kind) rfl
        rw [addr_add] at this
        exact block_lt_of_cell this
      refine ⟨b, off, rfl, hb, fun j e hj i v hv => ?_⟩
      have hjl : j < l := by have := (List.getElem?_eq_some_iff.1 hj).1; simpa using this
      obtain ⟨e', he', hc⟩ := hE' j (by omega)
      have : e' = e := by
        rw [List.getElem?_map, List.getElem?_range hjl] at hj
        simpa [he'] using hj
      subst this
      have := hc i v hv
      rw [addr_add] at this
      rw [Nat.add_assoc]; exact this
end
end Go.Proofs.YtcbcknfhblamfaaGreatDoor
namespace Go.Proofs.YtcbcknfhblamfaaGreatDoor
open Go.RowKit Go.Shelf Go.Lib

theorem isAggE (w : World) : (isAgg 33).run Tryz.prog w = .ok true w := by kernel_rfl
theorem sizeOfE (w : World) : (Go.sizeOf 33).run Tryz.prog w = .ok 5 w := by kernel_rfl
/-- Rows in memory. -/
def cellsIn (w : World) (q : Option Addr) (l : List Cell) : Prop :=
  l = [] ∨ ∃ g, q = some ⟨g, 0, none⟩ ∧ g < w.heap.size ∧ ∀ j, j < l.length → ∀ i v, (cellVs l[j]!)[i]? = some v → w.cell? ⟨g, 0 + j * 4 + i, none⟩ = some v
theorem cellsIn_of {w : World} {base : Nat} {q : Option Addr} {m cap : Nat} {l : List Cell} (h : ownsCl w base (.slice q m cap) l) : cellsIn w q l ∧ m = l.length := by
  by_cases e : l = []
  · subst e
    refine ⟨.inl rfl, ?_⟩
    obtain ⟨_, ⟨h1, _⟩ | ⟨g, cap', cur, h1, _⟩⟩ := h
    · cases h1; rfl
    · cases h1; rfl
  · obtain ⟨g, cap', cur, hv, _, hh, _, _, _, hx⟩ := ownsCl_form h e
    cases hv
    refine ⟨.inr ⟨g, rfl, lt_of_heap hh, fun j hj i v hi => ?_⟩, rfl⟩
    have hi4 : i < 4 := by have := (List.getElem?_eq_some_iff.1 hi).1; simpa [cellVs] using this
    have := row_cell hh hx (0 + j * 4 + i) (by omega)
    rw [this]
    have h0 : (0 + j * 4 + i) / 4 = j := by omega
    have h1 : (0 + j * 4 + i) % 4 = i := by omega
    rw [h0, h1, getElem!_def, hi]
def cellEq (c d : Cell) : Bool := c.table.toList == d.table.toList && c.row.toList == d.row.toList && c.subject.toList == d.subject.toList && c.value.toList == d.value.toList
theorem cellEq_iff {c d : Cell} : cellEq c d = true ↔ c = d := by
  unfold cellEq
  simp only [ByteArray.toList_eq, Bool.and_eq_true, beq_iff_eq]
  constructor
  · rintro ⟨⟨⟨h1, h2⟩, h3⟩, h4⟩
    exact cell_ext (Prod.ext h1 h2) h3 h4
  · rintro rfl; simp
theorem eqC : EqlAt Tryz.prog 44 (fun x => .agg (cellVs x).toArray) cellEq := by
  refine ⟨fun x y w => ?_, GuardAt.agg _ (by kernel_rfl)⟩
  have u9 := Tryz.underlying9
  have a9 := Tryz.isAgg9
  have z9 := Tryz.sizeOf9
  have hS : Tryz.prog.underlying 44 = some (.struct (Tryz.prog.fieldsOf 44)) := by kernel_rfl
  have hp : Tryz.prog.stoodInHeld 44 = false := by kernel_rfl
  simp only [cellVs]
  rw [run_eql_struct, show (10000 : Nat) = 9999 + 1 from rfl, run_equalIn_agg w 9999 44 _ _ hS hp]
  simp only [Program.fieldsOf, Tryz.underlying44]
  unfold cellEq
  go_simp
  by_cases h1 : x.table.toList = y.table.toList <;> by_cases h2 : x.row.toList = y.row.toList <;> by_cases h3 : x.subject.toList = y.subject.toList <;> by_cases h4 : x.value.toList = y.value.toList <;> simp [h1, h2, h3, h4]
end Go.Proofs.YtcbcknfhblamfaaGreatDoor
namespace Go.Proofs.YtcbcknfhblamfaaGreatDoor
open Go.RowKit

/-- A table that lies, with its map, from block m on. -/
def tabIn (m : Nat) (w0 w : World) (tb n : Nat) (T : List Cell) : Prop :=
  ∃ mb, tabAt w tb mb n T ∧ m ≤ tb ∧ (∀ b, mb = some b → m ≤ b) ∧ Below m w0 w ∧ m ≤ w.heap.size
theorem tabIn.ext {m : Nat} {w0 w w' : World} {tb n : Nat} {T : List Cell} (h : tabIn m w0 w tb n T) (hx : ∃ x, w' = ext w x) : tabIn m w0 w' tb n T := by
  obtain ⟨mb, h1, h2, h3, h4, h5⟩ := h
  exact ⟨mb, h1.ext hx, h2, h3, h4.trans ((ext_iff.1 hx).mono h5), Nat.le_trans h5 (ext_iff.1 hx).size⟩
theorem tabIn.alloc {m : Nat} {w0 w : World} {tb n : Nat} {T : List Cell} (h : tabIn m w0 w tb n T) (o : Obj) : tabIn m w0 (w.alloc o) tb n T := h.ext (ext_alloc o (ext_refl w))
theorem tabIn.below {m : Nat} {w0 w : World} {tb n : Nat} {T : List Cell} (h : tabIn m w0 w tb n T) : Below m w0 w := by
  obtain ⟨mb, h1, h2, h3, h4, h5⟩ := h
  exact h4
theorem tabIn.once {m : Nat} {w0 w : World} {tb n : Nat} {T : List Cell} (h : tabIn m w0 w tb n T) : Once T := by
  obtain ⟨mb, h1, _⟩ := h
  exact h1.once
theorem tabIn.made {m : Nat} {w0 w : World} (hB : Below m w0 w) (hm : m ≤ w.heap.size) : tabIn m w0 (w.alloc (.cells #[.map none] 30)) w.heap.size 0 [] :=
  ⟨none, ⟨heap_alloc_at _ _, fun _ => rfl, fun b hb => by cases hb⟩, hm, (fun b hb => by cases hb), hB.alloc hm _, by simp; omega⟩
theorem apply_in (e : Ev) {m : Nat} {w0 w : World} {tb n : Nat} {T : List Cell} (h : tabIn m w0 w tb n T) (hn : n ≤ 1048576) (hz : e.subject.size ≤ 1048576 ∧ e.table.size ≤ 1048576 ∧ e.row.size ≤ 1048576) :
    Calls Tryz.prog 7 #[.pointer (some ⟨tb, 0, none⟩), .agg (evV e)] w fun x w' => x = .returned (if rightE okV e = true then .nilIface else errV 1) ∧ tabIn m w0 w' tb (n + 1) (applyT okV e T) := by
  obtain ⟨mb, h1, h2, h3, h4, h5⟩ := h
  refine (apply_any e w tb mb n T h1 hn hz).mono ?_
  rintro x w' ⟨hx, mb', t1, t2, t3, k⟩
  refine ⟨hx, mb', t1, h2, ?_, ⟨k.os.trans h4.os, k.tape.trans h4.tape, k.output.trans h4.output, Nat.le_trans h4.size k.size, fun i hi => ?_⟩, Nat.le_trans h5 k.size⟩
  · intro b hb
    cases mb with
    | none => exact Nat.le_trans h5 (t3 rfl b hb)
    | some b0 =>
      have := t2 b0 rfl
      rw [this] at hb
      cases hb
      exact h3 _ rfl
  · refine (k.block i (Nat.lt_of_lt_of_le hi h5) (by omega) ?_).trans (h4.block i hi)
    intro e
    have := h3 i e.symm
    omega
theorem get_in (t r : ByteArray) {m : Nat} {w0 w : World} {tb n : Nat} {T : List Cell} (h : tabIn m w0 w tb n T) (ht : t.size ≤ maxLen) (hr : r.size ≤ maxLen) :
    Calls Tryz.prog 12 #[.pointer (some ⟨tb, 0, none⟩), .string t, .string r] w fun x w' => x = .returned (answG (txt t, txt r) T) ∧ ∃ x, w' = Go.Proofs.YtcbcknfhblamfaaGreatDoor.ext w x := by
  obtain ⟨mb, h1, h2, h3, h4, h5⟩ := h
  exact get_any t r w tb mb n T h1 ht hr
theorem cells_in {m : Nat} {w0 w : World} {tb n : Nat} {T : List Cell} (h : tabIn m w0 w tb n T) (hn : n ≤ 1048576) :
    Calls Tryz.prog 10 #[.pointer (some ⟨tb, 0, none⟩)] w (CellsPost w T) := by
  obtain ⟨mb, h1, h2, h3, h4, h5⟩ := h
  cases mb with
  | none =>
    obtain rfl := h1.nil rfl
    exact cells_nil w tb n h1
  | some b => exact cells_some w tb b n T h1 hn
/-! ### A fact -/
def annP : Ev := ⟨1, ⟨#[97, 110, 110]⟩, ⟨#[116]⟩, ⟨#[114]⟩, ⟨#[118]⟩⟩
def annG : Ev := ⟨3, ⟨#[97, 110, 110]⟩, ⟨#[]⟩, ⟨#[]⟩, ⟨#[]⟩⟩
theorem annP_right : rightE okV annP = true := by decide +kernel
theorem annG_right : rightE okV annG = true := by decide +kernel
theorem annP_T : applyT okV annP [] = [cellE annP] := by unfold applyT; rw [if_pos annP_right]; rfl
theorem annG_T : applyT okV annG [cellE annP] = [] := by
  unfold applyT; rw [if_pos annG_right]
  rfl
theorem ann_find : answG (txt ⟨#[116]⟩, txt ⟨#[114]⟩) [cellE annP] = .tuple #[.agg (cellA (cellE annP)), .nilIface] := rfl
end Go.Proofs.YtcbcknfhblamfaaGreatDoor
namespace Go.Proofs.YtcbcknfhblamfaaGreatDoor
open Go.RowKit Go.Shelf Go.Lib

def longE (e : Ev) : Bool := decide ((40 : Int) < e.subject.size) || decide ((40 : Int) < e.table.size) || decide ((40 : Int) < e.row.size) || decide ((60 : Int) < e.value.size)
def fewB (l : List Ev) : Bool := decide ((l.length : Int) ≤ 30) && !l.any longE
end Go.Proofs.YtcbcknfhblamfaaGreatDoor
