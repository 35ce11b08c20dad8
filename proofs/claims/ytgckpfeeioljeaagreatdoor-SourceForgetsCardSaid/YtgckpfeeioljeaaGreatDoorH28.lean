/- A table of the call's own: Apply, Get, Cells. oubliettekeep.applied (the walk). -/
import Derived.Test.YtgckpfeeioljeaaGreatDoorProg
import Derived.Test.YtgckpfeeioljeaaGreatDoorG25
import Derived.Test.YtgckpfeeioljeaaGreatDoorG27
import Derived.Test.YtgckpfeeioljeaaGreatDoorG26
import Derived.Test.YtgckpfeeioljeaaGreatDoorG22
namespace Go.Proofs.YtgckpfeeioljeaaGreatDoor
open Go.RowKit

/-- A table that lies, with its map, from block m on. -/
def tabIn (m : Nat) (w0 w : World) (tb n : Nat) (T : List Cell) : Prop :=
  ∃ mb, tabAt w tb H0 mb n T ∧ m ≤ tb ∧ (∀ b, mb = some b → m ≤ b) ∧ Below m w0 w ∧ m ≤ w.heap.size
theorem tabIn.ext {m : Nat} {w0 w w' : World} {tb n : Nat} {T : List Cell} (h : tabIn m w0 w tb n T) (hx : ∃ x, w' = ext w x) : tabIn m w0 w' tb n T := by
  obtain ⟨mb, h1, h2, h3, h4, h5⟩ := h
  exact ⟨mb, h1.ext hx, h2, h3, h4.trans ((ext_iff.1 hx).mono h5), Nat.le_trans h5 (ext_iff.1 hx).size⟩
theorem tabIn.alloc {m : Nat} {w0 w : World} {tb n : Nat} {T : List Cell} (h : tabIn m w0 w tb n T) (o : Obj) : tabIn m w0 (w.alloc o) tb n T := h.ext (ext_alloc o (ext_refl w))
theorem tabIn.below {m : Nat} {w0 w : World} {tb n : Nat} {T : List Cell} (h : tabIn m w0 w tb n T) : Below m w0 w := by
  obtain ⟨mb, h1, h2, h3, h4, h5⟩ := h
  exact h4
theorem tabIn.once {m : Nat} {w0 w : World} {tb n : Nat} {T : List Cell} (h : tabIn m w0 w tb n T) : Once T := by
  obtain ⟨mb, h1, _⟩ := h
  exact h1.once
theorem tabIn.made {m : Nat} {w0 w : World} (hB : Below m w0 w) (hm : m ≤ w.heap.size) : tabIn m w0 (w.alloc (.cells #[.map none] 87)) w.heap.size 0 [] :=
  ⟨none, ⟨heap_alloc_at _ _, fun _ => rfl, fun b hb => by cases hb⟩, hm, (fun b hb => by cases hb), hB.alloc hm _, by simp; omega⟩
theorem apply_in (e : Ev) {m : Nat} {w0 w : World} {tb n : Nat} {T : List Cell} (h : tabIn m w0 w tb n T) (hn : n ≤ 1048576) (hz : e.subject.size ≤ 1048576 ∧ e.table.size ≤ 1048576 ∧ e.row.size ≤ 1048576) :
    Calls Tryz.prog 54 #[.pointer (some ⟨tb, 0, none⟩), .agg (evV e)] w fun x w' => x = .returned (if rightE okV e = true then .nilIface else errV 1) ∧ tabIn m w0 w' tb (n + 1) (applyT okV e T) := by
  obtain ⟨mb, h1, h2, h3, h4, h5⟩ := h
  refine (apply_any e w tb 0 H0 rfl mb n T h1 hn hz).mono ?_
  rintro x w' ⟨hx, mb', t1, t2, t3, k⟩
  refine ⟨hx, mb', t1, h2, ?_, ⟨k.os.trans h4.os, k.tape.trans h4.tape, k.output.trans h4.output, Nat.le_trans h4.size k.size, fun i hi => ?_⟩, Nat.le_trans h5 k.size⟩
  · intro b hb
    cases mb with
    | none => exact Nat.le_trans h5 (t3 rfl b hb)
    | some b0 =>
      have := t2 b0 rfl
      rw [this] at hb
      cases hb
      exact h3 _ rfl
  · refine (k.block i (Nat.lt_of_lt_of_le hi h5) (by omega) ?_).trans (h4.block i hi)
    intro e
    have := h3 i e.symm
    omega
theorem get_in (t r : ByteArray) {m : Nat} {w0 w : World} {tb n : Nat} {T : List Cell} (h : tabIn m w0 w tb n T) (ht : t.size ≤ maxLen) (hr : r.size ≤ maxLen) :
    Calls Tryz.prog 55 #[.pointer (some ⟨tb, 0, none⟩), .string t, .string r] w fun x w' => x = .returned (answG (txt t, txt r) T) ∧ ∃ x, w' = Go.Proofs.YtgckpfeeioljeaaGreatDoor.ext w x := by
  obtain ⟨mb, h1, h2, h3, h4, h5⟩ := h
  exact get_any t r w tb 0 H0 rfl mb n T h1 ht hr
theorem cells_in {m : Nat} {w0 w : World} {tb n : Nat} {T : List Cell} (h : tabIn m w0 w tb n T) (hn : n ≤ 1048576) :
    Calls Tryz.prog 53 #[.pointer (some ⟨tb, 0, none⟩)] w (CellsPost w T) := by
  obtain ⟨mb, h1, h2, h3, h4, h5⟩ := h
  cases mb with
  | none =>
    obtain rfl := h1.nil rfl
    exact cells_nil w tb 0 H0 rfl n h1
  | some b => exact cells_some w tb 0 H0 rfl b n T h1 hn
/-! ### A fact -/
def annP : Ev := ⟨1, ⟨#[97, 110, 110]⟩, ⟨#[116]⟩, ⟨#[114]⟩, ⟨#[118]⟩⟩
def annG : Ev := ⟨3, ⟨#[97, 110, 110]⟩, ⟨#[]⟩, ⟨#[]⟩, ⟨#[]⟩⟩
theorem annP_right : rightE okV annP = true := by decide +kernel
theorem annG_right : rightE okV annG = true := by decide +kernel
theorem annP_T : applyT okV annP [] = [cellE annP] := by unfold applyT; rw [if_pos annP_right]; rfl
theorem annG_T : applyT okV annG [cellE annP] = [] := by
  unfold applyT; rw [if_pos annG_right]
  rfl
theorem ann_find : answG (txt ⟨#[116]⟩, txt ⟨#[114]⟩) [cellE annP] = .tuple #[.agg (cellA (cellE annP)), .nilIface] := rfl
set_option maxRecDepth 100000 in
set_option maxHeartbeats 1000000 in
theorem applied_any (w : World) : Calls Tryz.prog 20 #[] w (Res true w) := by
  have T0 := Lib.hid (tabIn.made (Below.refl w.heap.size w) (Nat.le_refl _))
  have AP := fun w1 h => apply_in annP (m := w.heap.size) (w0 := w) (w := w1) (tb := w.heap.size) (n := 0) (T := []) h (by decide) (by decide)
  have GT := fun w1 h => get_in ⟨#[116]⟩ ⟨#[114]⟩ (m := w.heap.size) (w0 := w) (w := w1) (tb := w.heap.size) (n := 1) (T := [cellE annP]) h (by decide) (by decide)
  have AG := fun w1 h => apply_in annG (m := w.heap.size) (w0 := w) (w := w1) (tb := w.heap.size) (n := 1) (T := [cellE annP]) h (by decide) (by decide)
  have CE := fun w1 h => cells_in (m := w.heap.size) (w0 := w) (w := w1) (tb := w.heap.size) (n := 2) (T := []) h (by decide)
  rw [annP_right, if_pos rfl, annP_T] at AP
  rw [annG_right, if_pos rfl, annG_T] at AG
  rw [ann_find] at GT
  unfold evV annP at AP
  unfold evV annG at AG
  unfold cellA cellE annP at GT
  dsimp only at AP AG GT
  go_enter Tryz.func20, Tryz.ntmps20
  go_wp2_with fail
  refine (AP _ T0.out).mono ?_
  rintro _ w1 ⟨rfl, T1⟩
  have T1 := Lib.hid T1
  clear T0 AP
  go_wp2_with fail
  refine (GT _ T1.out).mono ?_
  rintro _ w2 ⟨rfl, hx⟩
  have T2 := Lib.hid (T1.out.ext hx)
  clear T1 GT hx
  go_wp2_with fail
  refine (AG _ (T2.out.alloc _)).mono ?_
  rintro _ w3 ⟨rfl, T3⟩
  have T3 := Lib.hid T3
  clear AG T2
  go_wp2_with fail
  refine (CE _ T3.out).mono ?_
  rintro _ w4 ⟨v, l, rfl, hp, _, _, hv, hB⟩
  obtain rfl := hp.eq_nil
  obtain rfl := hv.2 rfl
  have X4 := Lib.hid (ext_of (T3.out.below.trans (hB.mono T3.out.below.size)))
  clear hp hv hB CE
  go_wp2_with fail
  go_ret
  exact ⟨by simp, X4.out⟩
end Go.Proofs.YtgckpfeeioljeaaGreatDoor
