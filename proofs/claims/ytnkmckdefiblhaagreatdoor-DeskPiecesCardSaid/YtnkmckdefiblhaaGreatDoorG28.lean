/- (*reader.Reader).Save, and reader.Load (the walks). -/
import Derived.Test.YtnkmckdefiblhaaGreatDoorProg
import Derived.Test.YtnkmckdefiblhaaGreatDoorG22
import Derived.Test.YtnkmckdefiblhaaGreatDoorG24
import Derived.Test.YtnkmckdefiblhaaGreatDoorG17
import Derived.Test.YtnkmckdefiblhaaGreatDoorG15
import Derived.Test.YtnkmckdefiblhaaGreatDoorG25
import Derived.Test.YtnkmckdefiblhaaGreatDoorG4
import Derived.Laws.EntriesVeiled
namespace Go.Proofs.YtnkmckdefiblhaaGreatDoor
open Go.RowKit Go.Shelf

theorem ownsCl_lo {w : World} {base b : Nat} {v : Value} {l : List Cell} (h : ownsCl w base v l) (hb : b ≤ base) : ownsCl w b v l := by
  obtain ⟨h1, h2 | ⟨g, cap, cur, hv, hb', h3⟩⟩ := h
  · exact ⟨h1, .inl h2⟩
  · exact ⟨h1, .inr ⟨g, cap, cur, hv, Nat.le_trans hb hb', h3⟩⟩
theorem cell4 {w : World} {b : Nat} {v0 v1 v2 v3 : Value} {t : TypeId} {f : Nat × Nat} (h : w.heap[b]? = some (.cells #[v0, v1, v2, v3] t f)) : w.cell? ⟨b, 0, none⟩ = some v0 ∧ w.cell? ⟨b, 1, none⟩ = some v1 ∧ w.cell? ⟨b, 2, none⟩ = some v2 ∧ w.cell? ⟨b, 3, none⟩ = some v3 := by
  refine ⟨?_, ?_, ?_, ?_⟩ <;> (rw [cell_in, h]; rfl)
/-- A struct result lies in a block. -/
theorem ret_cell1 {P : Program} {fn : Func} {R : Ending → World → Prop} {a : Act} {w : World} {p : Tmp} {ty : TypeId} {b : Nat} {V : Array Value} {t : TypeId} {fr : Nat × Nat} {d : TypeDesc} (h : fn.results = #[.cell p ty]) (hp : a.tmps.getD p undef = .pointer (some ⟨b, 0, none⟩))
    (hb : w.heap[b]? = some (.cells V t fr)) (hu : P.underlying ty = some d) (hd : (match d with | .struct _ | .array _ _ => true | _ => false) = true) (hi : (P.info? ty).map (·.size) = some V.size) (hdf : a.defers = [])
    (hR : R (.returned (.agg V)) w) : bodyPost P fn R .ret a w := by
  refine bodyPost_ret (v := .agg V) ?_ hdf hR
  exact results_cell_row h a.tmps w b t V fr d hp hb hu hd hi
/-- What Save writes, and when. -/
def svC (w0 : World) (zb : Nat) (sq lo : Nat) (mk : ByteArray) (T : List Cell) (done : Bool) (w : World) : Prop :=
  w0.grownBy w (some zb) ∧ (done = false → w.heap[zb]? = some (.cells #[.int .i64 0, .string ⟨#[]⟩, .slice none 0 0, .int .i64 0] 29 (0, 0))) ∧
  (done = true → ∃ v, w.heap[zb]? = some (.cells #[.int .i64 sq, .string mk, v, .int .i64 lo] 29 (0, 0)) ∧ ownsCl w (zb + 1) v T)
section
variable {w0 w w' : World} {zb sq lo : Nat} {mk : ByteArray} {T : List Cell} {done : Bool}
theorem ownsCl_off {v : Value} (h : ownsCl w (zb + 1) v T) (g : w.grownBy w' (some zb)) : ownsCl w' (zb + 1) v T :=
  h.kept g (fun b hb e => by have := (h.base hb).1; injection e with e; omega)
theorem svC.ext (h : svC w0 zb sq lo mk T done w) (hx : ∃ x, w' = Go.Proofs.YtnkmckdefiblhaaGreatDoor.ext w x) (hz : zb < w.heap.size) : svC w0 zb sq lo mk T done w' := by
  have hb := ext_iff.1 hx
  refine ⟨h.1.trans (grown_below hb _), fun hd => (hb.block _ hz).trans (h.2.1 hd), fun hd => ?_⟩
  obtain ⟨v, h1, h2⟩ := h.2.2 hd
  exact ⟨v, (hb.block _ hz).trans h1, h2.kept (grown_below hb none) (by simp)⟩
theorem svC.lt (h : svC w0 zb sq lo mk T done w) : zb < w.heap.size := by
  cases done with
  | false => exact lt_of_heap (h.2.1 rfl)
  | true => obtain ⟨v, h1, _⟩ := h.2.2 rfl; exact lt_of_heap h1
theorem setV4 {b : Nat} {v0 v1 v2 v3 : Value} {t : TypeId} (h : w.heap[b]? = some (.cells #[v0, v1, v2, v3] t (0, 0))) (x0 x1 x2 x3 : Value) :
    ((((w.setCell ⟨b, 0, none⟩ x0).setCell ⟨b, 1, none⟩ x1).setCell ⟨b, 2, none⟩ x2).setCell ⟨b, 3, none⟩ x3).heap[b]? = some (.cells #[x0, x1, x2, x3] t (0, 0)) ∧
    w.grownBy ((((w.setCell ⟨b, 0, none⟩ x0).setCell ⟨b, 1, none⟩ x1).setCell ⟨b, 2, none⟩ x2).setCell ⟨b, 3, none⟩ x3) (some b) :=
  ⟨heap_setCell (heap_setCell (heap_setCell (heap_setCell h _) _) _) _, (((grown_setCell _ _ _ _).trans (grown_setCell _ _ _ _)).trans (grown_setCell _ _ _ _)).trans (grown_setCell _ _ _ _)⟩
theorem svC.put {v : Value} (h : svC w0 zb sq lo mk T done w) (hb : w'.heap[zb]? = some (.cells #[.int .i64 sq, .string mk, v, .int .i64 lo] 29 (0, 0))) (hg : w.grownBy w' (some zb)) (ho : ownsCl w (zb + 1) v T) : svC w0 zb sq lo mk T true w' :=
  ⟨h.1.trans hg, (fun e => by cases e), fun _ => ⟨v, hb, ownsCl_off ho hg⟩⟩
end
def SavePost (w : World) (R : RdM) (r : Ending) (w' : World) : Prop := ∃ v, r = .returned (.agg #[.int .i64 R.seq, .string R.mark, v, .int .i64 R.lost]) ∧ ownsCl w' w.heap.size v (sortC R.T) ∧ Below w.heap.size w w'
def frSv (rb : Nat) (zb : Nat) (g : Nat → Value) : Act := { tmps := #[.pointer (some ⟨rb, 0, none⟩), undef, .pointer (some ⟨zb, 0, none⟩), g 3, g 4, g 5, g 6, g 7, g 8, g 9, g 10, g 11, g 12, g 13, g 14, g 15, g 16, g 17, g 18, g 19], defers := [] }
def dstSv (i : Nat) : Nat := ([3, 4, 5, 6, 7, 8, 9, 10, 11, 12, 13, 14, 15, 16, 17, 18, 19, 1017] : List Nat).getD i (2000 + i)
def laysSv (rb : Nat) (zb : Nat) (sq : Nat) (lo : Nat) (mk : ByteArray) (Ls : List Cell) (j : Nat) (v : Value) (w : World) : Prop :=
  match j with
  | 0 => v = .pointer (some ⟨rb, 0, none⟩)
  | 1 => v = .pointer (some ⟨rb, 0, none⟩)
  | 2 => v = .pointer (some ⟨rb, 1, none⟩)
  | 3 => v = .int .i64 sq
  | 4 => v = .pointer (some ⟨rb, 0, none⟩)
  | 5 => v = .pointer (some ⟨rb, 0, none⟩)
  | 6 => v = .pointer (some ⟨rb, 2, none⟩)
  | 7 => v = .string mk
  | 8 => v = .pointer (some ⟨rb, 0, none⟩)
  | 9 => v = .pointer (some ⟨rb, 0, none⟩)
  | 10 => v = .pointer (some ⟨rb, 3, none⟩)
  | 11 => ownsCl w (zb + 1) v Ls
  | 12 => v = .pointer (some ⟨rb, 0, none⟩)
  | 13 => v = .pointer (some ⟨rb, 0, none⟩)
  | 14 => v = .pointer (some ⟨rb, 4, none⟩)
  | 15 => v = .int .i64 lo
  | 16 => ∃ v', v = .agg #[.int .i64 sq, .string mk, v', .int .i64 lo] ∧ ownsCl w (zb + 1) v' Ls
  | _ => True
set_option maxRecDepth 100000 in
set_option maxHeartbeats 2000000 in
theorem rsave_any (w : World) (D : Blk) (rb vb n : Nat) (R : RdM) (h : rdIn w D rb vb n R) (hn : n ≤ 1048576) :
    Calls Tryz.prog 69 #[.pointer (some ⟨rb, 0, none⟩)] w (SavePost w R) := by
  obtain ⟨tm, h⟩ := h
  have hbb := h.tab.blk
  have HT := Lib.hid h.tab
  have HP : Hid (∀ r w', (∃ v, r = .returned (.agg #[.int .i64 R.seq, .string R.mark, v, .int .i64 R.lost]) ∧ ownsCl w' w.heap.size v (sortC R.T) ∧ Below w.heap.size w w') → SavePost w R r w') := Lib.hid fun _ _ h => h
  have hlt := lt_of_heap hbb
  clear h hbb
  go_enter Tryz.func69, Tryz.ntmps69
  go_wp2_with fail
  have ZB := Lib.hid (heap_alloc_at w (.cells #[.int .i64 0, .string ⟨#[]⟩, .slice none 0 0, .int .i64 0] 29))
  have XB := Lib.hid (ext_alloc (.cells #[.int .i64 0, .string ⟨#[]⟩, .slice none 0 0, .int .i64 0] 29) (ext_refl w))
  have HT1 := Lib.hid (HT.out.ext XB.out)
  have RZ := Lib.hid (show some rb ≠ some w.heap.size ∧ ∀ b, tm = some b → some b ≠ some w.heap.size from ⟨by intro e; injection e with e; omega, fun b hb e => by
    injection e with e
    have h1 := HT.out.map b hb
    obtain ⟨es, ck, hbk⟩ := h1.block
    have := lt_of_heap hbk
    omega⟩)
  generalize w.alloc (.cells #[.int .i64 0, .string ⟨#[]⟩, .slice none 0 0, .int .i64 0] 29) = wa at ZB XB HT1 ⊢
  have HZ := Lib.hid (show w.heap.size = w.heap.size from rfl)
  generalize hzb : w.heap.size = zb at ZB RZ ⊢
  have HZB := Lib.hid hzb
  clear hzb HZ HT
  refine wp_region_slots (frSv rb zb) dstSv (fun _ => undef) (laysSv rb zb R.seq R.lost R.mark (sortC R.T)) (fun L g w => svC wa zb R.seq R.lost R.mark (sortC R.T) (L 17) w) (fun w w' => w.grownBy w' (some zb)) (by kernel_rfl) (by kernel_rfl) rfl ?_ (by kernel_rfl) ⟨grown_drawn _ _ _, fun _ => ZB.out, (fun e => by cases e)⟩ ?_ ?_
  · exact fun j v w w' h hr => by unfold laysSv at hr ⊢; split at hr <;> first | exact hr | exact ownsCl_off hr h | (obtain ⟨v', h1, h2⟩ := hr; exact ⟨v', h1, ownsCl_off h2 h⟩)
  · refine ⟨?_, ?_, ?_, ?_, ?_, ?_, ?_, ?_, ?_, ?_, ?_, ?_, ?_, ?_, ?_, ?_, ?_, ?_, trivial⟩
    all_goals (intro L gs w1 hLi hdeps hR hC; refine ends_of fun Q hQ => ?_)
    · have HQ := fun (a' : Act) (va : Value) (w' : World) (h1 : a' = frSv rb zb (upd1 gs 3 va)) h2 (h3 : laysSv rb zb R.seq R.lost R.mark (sortC R.T) 0 va w') h4 => hQ.out a' w' ⟨va, h1, h2, h3, h4⟩
      unfold frSv
      go_wp2_with fail
      exact HQ _ (.pointer (some ⟨rb, 0, none⟩)) _ (by simp only [frSv, upd1, Nat.reduceEqDiff, reduceIte]) (grown_refl _ _) rfl hC
    · have HQ := fun (a' : Act) (va : Value) (w' : World) (h1 : a' = frSv rb zb (upd1 gs 4 va)) h2 (h3 : laysSv rb zb R.seq R.lost R.mark (sortC R.T) 1 va w') h4 => hQ.out a' w' ⟨va, h1, h2, h3, h4⟩
      have r0 : gs 3 = .pointer (some ⟨rb, 0, none⟩) := hR 0 (hdeps ⟨0, .data⟩ (by simp) rfl)
      unfold frSv
      go_wp2_with fail
      exact HQ _ (.pointer (some ⟨rb, 0, none⟩)) _ (by simp only [frSv, upd1, r0, Nat.reduceEqDiff, reduceIte]) (grown_refl _ _) rfl hC
    · have HQ := fun (a' : Act) (va : Value) (w' : World) (h1 : a' = frSv rb zb (upd1 gs 5 va)) h2 (h3 : laysSv rb zb R.seq R.lost R.mark (sortC R.T) 2 va w') h4 => hQ.out a' w' ⟨va, h1, h2, h3, h4⟩
      have r1 : gs 4 = .pointer (some ⟨rb, 0, none⟩) := hR 1 (hdeps ⟨1, .data⟩ (by simp) rfl)
      unfold frSv
      go_wp2_with fail
      exact HQ _ (.pointer (some ⟨rb, 1, none⟩)) _ (by simp only [frSv, upd1, r1, Nat.reduceEqDiff, reduceIte]) (grown_refl _ _) rfl hC
    · have HQ := fun (a' : Act) (va : Value) (w' : World) (h1 : a' = frSv rb zb (upd1 gs 6 va)) h2 (h3 : laysSv rb zb R.seq R.lost R.mark (sortC R.T) 3 va w') h4 => hQ.out a' w' ⟨va, h1, h2, h3, h4⟩
      have r2 : gs 5 = .pointer (some ⟨rb, 1, none⟩) := hR 2 (hdeps ⟨2, .data⟩ (by simp) rfl)
      have hc := HT1.out.kept hC.1 RZ.out.1 RZ.out.2
      obtain ⟨z0, z1, z2, z4, lw1⟩ := rd_cells hc
      unfold frSv
      go_wp2_with fail
      exact HQ _ (.int .i64 R.seq) _ (by simp only [frSv, upd1, r2, Nat.reduceEqDiff, reduceIte]) (grown_refl _ _) rfl hC
    · have HQ := fun (a' : Act) (va : Value) (w' : World) (h1 : a' = frSv rb zb (upd1 gs 7 va)) h2 (h3 : laysSv rb zb R.seq R.lost R.mark (sortC R.T) 4 va w') h4 => hQ.out a' w' ⟨va, h1, h2, h3, h4⟩
      unfold frSv
      go_wp2_with fail
      exact HQ _ (.pointer (some ⟨rb, 0, none⟩)) _ (by simp only [frSv, upd1, Nat.reduceEqDiff, reduceIte]) (grown_refl _ _) rfl hC
    · have HQ := fun (a' : Act) (va : Value) (w' : World) (h1 : a' = frSv rb zb (upd1 gs 8 va)) h2 (h3 : laysSv rb zb R.seq R.lost R.mark (sortC R.T) 5 va w') h4 => hQ.out a' w' ⟨va, h1, h2, h3, h4⟩
      have r4 : gs 7 = .pointer (some ⟨rb, 0, none⟩) := hR 4 (hdeps ⟨4, .data⟩ (by simp) rfl)
      unfold frSv
      go_wp2_with fail
      exact HQ _ (.pointer (some ⟨rb, 0, none⟩)) _ (by simp only [frSv, upd1, r4, Nat.reduceEqDiff, reduceIte]) (grown_refl _ _) rfl hC
    · have HQ := fun (a' : Act) (va : Value) (w' : World) (h1 : a' = frSv rb zb (upd1 gs 9 va)) h2 (h3 : laysSv rb zb R.seq R.lost R.mark (sortC R.T) 6 va w') h4 => hQ.out a' w' ⟨va, h1, h2, h3, h4⟩
      have r5 : gs 8 = .pointer (some ⟨rb, 0, none⟩) := hR 5 (hdeps ⟨5, .data⟩ (by simp) rfl)
      unfold frSv
      go_wp2_with fail
      exact HQ _ (.pointer (some ⟨rb, 2, none⟩)) _ (by simp only [frSv, upd1, r5, Nat.reduceEqDiff, reduceIte]) (grown_refl _ _) rfl hC
    · have HQ := fun (a' : Act) (va : Value) (w' : World) (h1 : a' = frSv rb zb (upd1 gs 10 va)) h2 (h3 : laysSv rb zb R.seq R.lost R.mark (sortC R.T) 7 va w') h4 => hQ.out a' w' ⟨va, h1, h2, h3, h4⟩
      have r6 : gs 9 = .pointer (some ⟨rb, 2, none⟩) := hR 6 (hdeps ⟨6, .data⟩ (by simp) rfl)
      have hc := HT1.out.kept hC.1 RZ.out.1 RZ.out.2
      obtain ⟨z0, z1, z2, z4, lw1⟩ := rd_cells hc
      unfold frSv
      go_wp2_with fail
      exact HQ _ (.string R.mark) _ (by simp only [frSv, upd1, r6, Nat.reduceEqDiff, reduceIte]) (grown_refl _ _) rfl hC
    · have HQ := fun (a' : Act) (va : Value) (w' : World) (h1 : a' = frSv rb zb (upd1 gs 11 va)) h2 (h3 : laysSv rb zb R.seq R.lost R.mark (sortC R.T) 8 va w') h4 => hQ.out a' w' ⟨va, h1, h2, h3, h4⟩
      unfold frSv
      go_wp2_with fail
      exact HQ _ (.pointer (some ⟨rb, 0, none⟩)) _ (by simp only [frSv, upd1, Nat.reduceEqDiff, reduceIte]) (grown_refl _ _) rfl hC
    · have HQ := fun (a' : Act) (va : Value) (w' : World) (h1 : a' = frSv rb zb (upd1 gs 12 va)) h2 (h3 : laysSv rb zb R.seq R.lost R.mark (sortC R.T) 9 va w') h4 => hQ.out a' w' ⟨va, h1, h2, h3, h4⟩
      have r8 : gs 11 = .pointer (some ⟨rb, 0, none⟩) := hR 8 (hdeps ⟨8, .data⟩ (by simp) rfl)
      unfold frSv
      go_wp2_with fail
      exact HQ _ (.pointer (some ⟨rb, 0, none⟩)) _ (by simp only [frSv, upd1, r8, Nat.reduceEqDiff, reduceIte]) (grown_refl _ _) rfl hC
    · have HQ := fun (a' : Act) (va : Value) (w' : World) (h1 : a' = frSv rb zb (upd1 gs 13 va)) h2 (h3 : laysSv rb zb R.seq R.lost R.mark (sortC R.T) 10 va w') h4 => hQ.out a' w' ⟨va, h1, h2, h3, h4⟩
      have r9 : gs 12 = .pointer (some ⟨rb, 0, none⟩) := hR 9 (hdeps ⟨9, .data⟩ (by simp) rfl)
      unfold frSv
      go_wp2_with fail
      exact HQ _ (.pointer (some ⟨rb, 3, none⟩)) _ (by simp only [frSv, upd1, r9, Nat.reduceEqDiff, reduceIte]) (grown_refl _ _) rfl hC
    · have HQ := fun (a' : Act) (va : Value) (w' : World) (h1 : a' = frSv rb zb (upd1 gs 14 va)) h2 (h3 : laysSv rb zb R.seq R.lost R.mark (sortC R.T) 11 va w') h4 => hQ.out a' w' ⟨va, h1, h2, h3, h4⟩
      have r10 : gs 13 = .pointer (some ⟨rb, 3, none⟩) := hR 10 (hdeps ⟨10, .data⟩ (by simp) rfl)
      have hc := HT1.out.kept hC.1 RZ.out.1 RZ.out.2
      unfold frSv
      go_wp2_with fail
      refine (cells_any w1 rb 3 (HR vb R.seq R.mark R.lost) rfl tm n R.T hc hn).mono ?_
      rintro _ w5 ⟨v5, rfl, ho5, _, hb5⟩
      go_wp2_with fail
      exact HQ _ (v5) _ (by simp only [frSv, upd1, r10, Nat.reduceEqDiff, reduceIte]) (grown_below hb5 _) (ownsCl_lo ho5 hC.lt) (hC.ext (ext_of hb5) hC.lt)
    · have HQ := fun (a' : Act) (va : Value) (w' : World) (h1 : a' = frSv rb zb (upd1 gs 15 va)) h2 (h3 : laysSv rb zb R.seq R.lost R.mark (sortC R.T) 12 va w') h4 => hQ.out a' w' ⟨va, h1, h2, h3, h4⟩
      unfold frSv
      go_wp2_with fail
      exact HQ _ (.pointer (some ⟨rb, 0, none⟩)) _ (by simp only [frSv, upd1, Nat.reduceEqDiff, reduceIte]) (grown_refl _ _) rfl hC
    · have HQ := fun (a' : Act) (va : Value) (w' : World) (h1 : a' = frSv rb zb (upd1 gs 16 va)) h2 (h3 : laysSv rb zb R.seq R.lost R.mark (sortC R.T) 13 va w') h4 => hQ.out a' w' ⟨va, h1, h2, h3, h4⟩
      have r12 : gs 15 = .pointer (some ⟨rb, 0, none⟩) := hR 12 (hdeps ⟨12, .data⟩ (by simp) rfl)
      unfold frSv
      go_wp2_with fail
      exact HQ _ (.pointer (some ⟨rb, 0, none⟩)) _ (by simp only [frSv, upd1, r12, Nat.reduceEqDiff, reduceIte]) (grown_refl _ _) rfl hC
    · have HQ := fun (a' : Act) (va : Value) (w' : World) (h1 : a' = frSv rb zb (upd1 gs 17 va)) h2 (h3 : laysSv rb zb R.seq R.lost R.mark (sortC R.T) 14 va w') h4 => hQ.out a' w' ⟨va, h1, h2, h3, h4⟩
      have r13 : gs 16 = .pointer (some ⟨rb, 0, none⟩) := hR 13 (hdeps ⟨13, .data⟩ (by simp) rfl)
      unfold frSv
      go_wp2_with fail
      exact HQ _ (.pointer (some ⟨rb, 4, none⟩)) _ (by simp only [frSv, upd1, r13, Nat.reduceEqDiff, reduceIte]) (grown_refl _ _) rfl hC
    · have HQ := fun (a' : Act) (va : Value) (w' : World) (h1 : a' = frSv rb zb (upd1 gs 18 va)) h2 (h3 : laysSv rb zb R.seq R.lost R.mark (sortC R.T) 15 va w') h4 => hQ.out a' w' ⟨va, h1, h2, h3, h4⟩
      have r14 : gs 17 = .pointer (some ⟨rb, 4, none⟩) := hR 14 (hdeps ⟨14, .data⟩ (by simp) rfl)
      have hc := HT1.out.kept hC.1 RZ.out.1 RZ.out.2
      obtain ⟨z0, z1, z2, z4, lw1⟩ := rd_cells hc
      unfold frSv
      go_wp2_with fail
      exact HQ _ (.int .i64 R.lost) _ (by simp only [frSv, upd1, r14, Nat.reduceEqDiff, reduceIte]) (grown_refl _ _) rfl hC
    · have HQ := fun (a' : Act) (va : Value) (w' : World) (h1 : a' = frSv rb zb (upd1 gs 19 va)) h2 (h3 : laysSv rb zb R.seq R.lost R.mark (sortC R.T) 16 va w') h4 => hQ.out a' w' ⟨va, h1, h2, h3, h4⟩
      have r3 : gs 6 = .int .i64 R.seq := hR 3 (hdeps ⟨3, .data⟩ (by simp) rfl)
      have r7 : gs 10 = .string R.mark := hR 7 (hdeps ⟨7, .data⟩ (by simp) rfl)
      have r11 := hR 11 (hdeps ⟨11, .data⟩ (by simp) rfl)
      have r15 : gs 18 = .int .i64 R.lost := hR 15 (hdeps ⟨15, .data⟩ (by simp) rfl)
      have r11 : ownsCl w1 (zb + 1) (gs 14) (sortC R.T) := r11
      obtain ⟨q14, c14, h14⟩ := rows_shape r11
      unfold frSv
      go_wp2_with fail
      exact HQ _ (.agg #[.int .i64 R.seq, .string R.mark, .slice q14 (sortC R.T).length c14, .int .i64 R.lost]) _ (by simp only [frSv, upd1, r3, r7, r15, h14, Nat.reduceEqDiff, reduceIte]) (grown_refl _ _) ⟨_, rfl, by rw [← h14]; exact r11⟩ hC
    · have HQ := fun (a' : Act) (va : Value) (w' : World) (h1 : a' = frSv rb zb (upd1 gs 1017 va)) h2 (h3 : laysSv rb zb R.seq R.lost R.mark (sortC R.T) 17 va w') h4 => hQ.out a' w' ⟨va, h1, h2, h3, h4⟩
      have r16 := hR 16 (hdeps ⟨16, .data⟩ (by simp) rfl)
      obtain ⟨v', hv, ho⟩ := r16
      change gs 19 = _ at hv
      obtain ⟨q', c', rfl⟩ := rows_shape ho
      have hz := hC.2.1 hLi
      have lw1 := lt_of_heap hz
      have ff := free_of_heap hz
      have HH := Lib.hid (setV4 hz (.int .i64 R.seq) (.string R.mark) (.slice q' (sortC R.T).length c') (.int .i64 R.lost))
      obtain ⟨z0, z1, z2, z3⟩ := cell4 hz
      clear hz
      unfold frSv
      go_wp2_with fail
      exact HQ _ undef _ (by simp only [frSv, upd1, hv, Nat.reduceEqDiff, reduceIte]) HH.out.2 trivial (hC.put HH.out.1 HH.out.2 ho)
  intro L1 g1 w2 hall hR hC
  obtain ⟨v, hb, ho⟩ := hC.2.2 (hall 17 (by decide))
  have GG := hC.1
  have HV := Lib.hid hb
  have HO := Lib.hid ho
  have BL := Lib.hid (show Below w.heap.size w w2 from (ext_iff.1 XB.out).trans ⟨GG.os, GG.tape, GG.output, GG.size, fun i hi => GG.block i (by have := (ext_iff.1 XB.out).size; omega) (fun e => by injection e with e; have := HZB.out; omega)⟩)
  clear hC hall hR hb ho GG
  unfold frSv
  go_wp2_with fail
  exact ret_cell1 rfl rfl HV.out Tryz.underlying29 rfl (by kernel_rfl) rfl (HP.out _ _ ⟨v, rfl, ownsCl_lo HO.out (by have := HZB.out; omega), BL.out⟩)
/-! ### Load -/
abbrev RDT (T : List Cell) : RdM := ⟨0, noneS, T, 0⟩
def putE (c : Cell) : Ev := ⟨1, c.subject, c.table, c.row, c.value⟩
set_option maxRecDepth 100000 in
set_option maxHeartbeats 2000000 in
/-- Load's closure: a row is put. -/
theorem put1_any (c : Cell) (w : World) (D : Blk) (lb rb vb n : Nat) (T : List Cell) (h : rdIn w D rb vb n (RDT T)) (hlb : w.heap[lb]? = some (.cells #[.pointer (some ⟨rb, 0, none⟩)] 110 (0, 0))) (hr : rightE okV (putE c) = true) (hn : n ≤ 1048576) :
    Calls Tryz.prog 96 #[.agg (cellA c), .pointer (some ⟨lb, 0, none⟩)] w fun r w' => r = .returned (.bool true) ∧ ∃ D', rdIn w' D' rb vb (n + 1) (RDT (putT c T)) ∧ step w w' D D' := by
  obtain ⟨tm, h⟩ := h
  have hsm := right_small hr
  have HA := Lib.hid (show applyT okV (putE c) T = putT c T from by unfold applyT; rw [if_pos hr, stepT_put rfl]; rfl)
  obtain ⟨c1, c2, c3, c4⟩ := c
  unfold putE at hsm hr HA
  dsimp only at hsm hr HA
  have X1 := ext_alloc (.cells #[.string c1, .string c2, .string c3, .string c4] 152) (ext_refl w)
  have HD := Lib.hid h
  have HE := Lib.hid (heap_alloc_at w (.cells #[.string c1, .string c2, .string c3, .string c4] 152))
  have HL := Lib.hid (((ext_iff.1 X1).block _ (lt_of_heap hlb)).trans hlb)
  have HT := Lib.hid (h.tab.ext X1)
  have XX := Lib.hid X1
  have HS := Lib.hid hsm
  have HRT := Lib.hid hr
  clear h hlb X1 hsm hr
  unfold cellA
  dsimp only
  go_enter Tryz.func96, Tryz.ntmps96
  go_wp2_with fail
  generalize w.alloc (.cells #[.string c1, .string c2, .string c3, .string c4] 152) = w1 at HE HL HT XX ⊢
  generalize w.heap.size = eb at HE ⊢
  obtain ⟨d0, d1, d2, d3⟩ := cell_cells (c := ⟨c1, c2, c3, c4⟩) HE.out
  dsimp only at d0 d1 d2 d3
  have le := lt_of_heap HE.out
  have ll := lt_of_heap HL.out
  have zl : w1.cell? ⟨lb, 0, none⟩ = some (.pointer (some ⟨rb, 0, none⟩)) := by rw [cell_in, HL.out]; rfl
  have lr := lt_of_heap HT.out.blk
  refine wp_region_tail 12 (by kernel_rfl) (by kernel_rfl) ?_
  simp only [List.take_succ_cons, List.take_zero, List.drop_succ_cons, List.drop_zero]
  repeat (go_big_quiet_step (fail))
  refine wpQuiet_nil ?_
  rintro _ ⟨x, rfl⟩
  have hx : ∃ x', ext w1 x = ext w1 x' := ⟨x, rfl⟩
  have X2 := Lib.hid (ext_trans XX.out hx)
  have T2 := Lib.hid (HT.out.ext hx)
  generalize ext w1 x = w2 at X2 T2 ⊢
  clear hx d0 d1 d2 d3 le ll zl lr HE HL HT XX
  have AP := apply_any ⟨1, c3, c1, c2, c4⟩ w2 rb 3 (HR vb 0 noneS 0) rfl tm n T T2.out hn HS.out
  unfold evV at AP
  rw [HRT.out, if_pos rfl, HA.out] at AP
  dsimp only at AP
  go_wp2_with fail
  refine AP.mono ?_
  rintro _ w8 ⟨rfl, tm8, t1, t2, t3, kp⟩
  have B8 := Lib.hid t1
  have ST := Lib.hid ((step.of_ext D X2.out).trans (step.of_kept2 (D := D) kp HD.out.rb_ HD.out.tm_ t1 t2 t3))
  clear AP t1 t2 t3 kp T2
  go_wp2_with fail
  go_ret
  refine ⟨rfl, fun i => D i ∨ tm8 = some i, ⟨tm8, ⟨B8.out, .inl HD.out.rb_, (fun c hc => .inr hc), ?_, Nat.zero_le _, Nat.le_refl _⟩⟩, ST.out⟩
  rintro i (hi | hi)
  · exact Nat.lt_of_lt_of_le (HD.out.lt i hi) ST.out.size
  · exact (B8.out.map i hi).lt
/-- What stands as rows are put. -/
structure ldIn (w0 w : World) (D : Blk) (gb lb rb vb n : Nat) (sv : Array Value) (T : List Cell) : Prop where
  rdr : rdIn w D rb vb n (RDT T)
  st : step w0 w none0 D
  gb_ : w.heap[gb]? = some (.cells sv 29 (0, 0))
  lb_ : w.heap[lb]? = some (.cells #[.pointer (some ⟨rb, 0, none⟩)] 110 (0, 0))
  off : ¬ D gb ∧ ¬ D lb
theorem ldIn.ext {w0 w w' : World} {D : Blk} {gb lb rb vb n : Nat} {sv : Array Value} {T : List Cell} (h : ldIn w0 w D gb lb rb vb n sv T) (hx : ∃ x, w' = Go.Proofs.YtnkmckdefiblhaaGreatDoor.ext w x) : ldIn w0 w' D gb lb rb vb n sv T :=
  have hb := ext_iff.1 hx
  ⟨h.rdr.ext hx, h.st.trans (.of_ext _ hx), (hb.block _ (lt_of_heap h.gb_)).trans h.gb_, (hb.block _ (lt_of_heap h.lb_)).trans h.lb_, h.off⟩
theorem ldIn.put {w0 w w' : World} {D D' : Blk} {gb lb rb vb n n' : Nat} {sv : Array Value} {T T' : List Cell} (h : ldIn w0 w D gb lb rb vb n sv T) (hr : rdIn w' D' rb vb n' (RDT T')) (g : step w w' D D') : ldIn w0 w' D' gb lb rb vb n' sv T' := by
  obtain ⟨a1, _, a3⟩ := g.keep (lt_of_heap h.gb_) h.off.1
  obtain ⟨b1, _, b3⟩ := g.keep (lt_of_heap h.lb_) h.off.2
  exact ⟨hr, h.st.trans g, a1.trans h.gb_, b1.trans h.lb_, a3, b3⟩
/-- What Load writes at its end. -/
def stL (w0 : World) (rb vb sq lo : Nat) (mk : ByteArray) (tm : Option Nat) (b1 b2 b3 : Bool) (w : World) : Prop :=
  w0.grownBy w (some rb) ∧ w.heap[rb]? = some (.cells #[.pointer (some ⟨vb, 0, none⟩), .int .i64 (if b1 = true then (sq : Int) else 0), .string (if b2 = true then mk else noneS), .map tm, .int .i64 (if b3 = true then (lo : Int) else 0)] 164 (0, 0))
section
variable {w0 w w' : World} {rb vb sq lo : Nat} {mk : ByteArray} {tm : Option Nat} {b1 b2 b3 : Bool}
theorem stL.put1 (h : stL w0 rb vb sq lo mk tm b1 b2 b3 w) : stL w0 rb vb sq lo mk tm true b2 b3 (w.setCell ⟨rb, 1, none⟩ (.int .i64 sq)) := ⟨h.1.trans (grown_setCell _ _ _ _), heap_setCell h.2 _⟩
theorem stL.put2 (h : stL w0 rb vb sq lo mk tm b1 b2 b3 w) : stL w0 rb vb sq lo mk tm b1 true b3 (w.setCell ⟨rb, 2, none⟩ (.string mk)) := ⟨h.1.trans (grown_setCell _ _ _ _), heap_setCell h.2 _⟩
theorem stL.put3 (h : stL w0 rb vb sq lo mk tm b1 b2 b3 w) : stL w0 rb vb sq lo mk tm b1 b2 true (w.setCell ⟨rb, 4, none⟩ (.int .i64 lo)) := ⟨h.1.trans (grown_setCell _ _ _ _), heap_setCell h.2 _⟩
end
theorem ccmp_neg {c d : Cell} (h : kless (ck c) (ck d) = true) : ccmp c d < 0 := kcmp_neg.2 h
theorem cell5 {w : World} {b : Nat} {v0 v1 v2 v3 v4 : Value} {t : TypeId} {f : Nat × Nat} (h : w.heap[b]? = some (.cells #[v0, v1, v2, v3, v4] t f)) : w.cell? ⟨b, 0, none⟩ = some v0 ∧ w.cell? ⟨b, 1, none⟩ = some v1 ∧ w.cell? ⟨b, 2, none⟩ = some v2 ∧ w.cell? ⟨b, 3, none⟩ = some v3 ∧ w.cell? ⟨b, 4, none⟩ = some v4 := by
  refine ⟨?_, ?_, ?_, ?_, ?_⟩ <;> (rw [cell_in, h]; rfl)
theorem cellsIn_x {w w' : World} {q : Option Addr} {l : List Cell} (h : cellsIn w q l) (hx : ∃ x, w' = ext w x) : cellsIn w' q l := by
  have hb := ext_iff.1 hx
  rcases h with h | ⟨g, hq, hg, hc⟩
  · exact .inl h
  · refine .inr ⟨g, hq, Nat.lt_of_lt_of_le hg hb.size, fun j hj i v hi => ?_⟩
    have := hc j hj i v hi
    rw [cell_in] at this ⊢
    rw [hb.block g hg]; exact this
theorem cellsIn_r4 {w : World} {q : Option Addr} {l : List Cell} {i : Nat} {c : Cell} (h : cellsIn w q l) (hi : l[i]? = some c) : ∃ g, q = some ⟨g, 0, none⟩ ∧ g < w.heap.size ∧
    w.cell? ⟨g, i * 4, none⟩ = some (.string c.table) ∧ w.cell? ⟨g, i * 4 + 1, none⟩ = some (.string c.row) ∧ w.cell? ⟨g, i * 4 + 2, none⟩ = some (.string c.subject) ∧ w.cell? ⟨g, i * 4 + 3, none⟩ = some (.string c.value) := by
  have hl := (List.getElem?_eq_some_iff.1 hi).1
  have he : l[i]! = c := by rw [getElem!_pos l i hl]; exact (List.getElem?_eq_some_iff.1 hi).2
  rcases h with h | ⟨g, hq, hg, hc⟩
  · subst h; simp at hi
  · have h := hc i hl
    rw [he, Nat.zero_add] at h
    exact ⟨g, hq, hg, h 0 _ rfl, h 1 _ rfl, h 2 _ rfl, h 3 _ rfl⟩
def frLda (vb : Nat) (qq : Option Addr) (cp : Nat) (lo : Nat) (gb : Nat) (lb : Nat) (rb : Nat) (u4 : Value) (u5 : Value) (u9 : Value) (u10 : Value) (u63 : Value) (u64 : Value) (u65 : Value) (u66 : Value) (u67 : Value) (u68 : Value) (u69 : Value) (u70 : Value) (u71 : Value) (u72 : Value) (u73 : Value) (u74 : Value) (u75 : Value) (u76 : Value) (u77 : Value) (u78 : Value) (u79 : Value) (u80 : Value) (u81 : Value) (u82 : Value) (u83 : Value) (u84 : Value) (u85 : Value) (u86 : Value) (g : Nat → Value) : Act := { tmps := #[.pointer (some ⟨vb, 0, none⟩), .agg #[.int .i64 0, .string noneS, .slice qq 0 cp, .int .i64 lo], undef, .pointer (some ⟨gb, 0, none⟩), u4, u5, .pointer (some ⟨lb, 0, none⟩), .nilIface, .func (Fn.func 96) #[] #[.pointer (some ⟨lb, 0, none⟩)], u9, u10, .tuple #[.pointer (some ⟨rb, 0, none⟩), .nilIface], .pointer (some ⟨vb, 0, none⟩), .tuple #[.pointer (some ⟨rb, 0, none⟩), .nilIface], .pointer (some ⟨rb, 0, none⟩), .nilIface, .nilIface, .bool false, undef, .pointer (some ⟨gb, 0, none⟩), .int .i64 0, .bool false, .bool false, .pointer (some ⟨gb, 3, none⟩), .int .i64 lo, .bool false, .bool false, .bool false, .pointer (some ⟨gb, 3, none⟩), .int .i64 lo, .pointer (some ⟨gb, 0, none⟩), .int .i64 0, .bool false, .bool false, .bool false, .pointer (some ⟨gb, 1, none⟩), .string noneS, .int .i64 noneS.size, .bool false, .bool false, .bool false, .pointer (some ⟨gb, 0, none⟩), .int .i64 0, .bool true, .bool true, .pointer (some ⟨gb, 1, none⟩), .string noneS, .bool false, .bool false, .pointer (some ⟨gb, 2, none⟩), .slice qq 0 cp, .int .i64 0, .bool false, .bool false, .bool false, .bool false, undef, .func (Fn.func 96) #[] #[.pointer (some ⟨lb, 0, none⟩)], .pointer (some ⟨gb, 2, none⟩), .slice qq 0 cp, .int .i64 0, .int .i64 0, .bool false, u63, u64, u65, u66, u67, u68, u69, u70, u71, u72, u73, u74, u75, u76, u77, u78, u79, u80, u81, u82, u83, u84, u85, u86, g 87, g 88, g 89, g 90, g 91, g 92, g 93, g 94, g 95, g 96, g 97, g 98, g 99, g 100, g 101, undef], defers := [] }
def dstLda (i : Nat) : Nat := ([87, 88, 89, 90, 91, 92, 93, 94, 95, 96, 97, 1011, 98, 99, 1014, 100, 101, 1017] : List Nat).getD i (2000 + i)
def laysLda (sq : Nat) (mk : ByteArray) (lo : Nat) (gb : Nat) (rb : Nat) (j : Nat) (v : Value) (_ : World) : Prop :=
  match j with
  | 0 => v = .pointer (some ⟨rb, 0, none⟩)
  | 1 => v = .pointer (some ⟨rb, 0, none⟩)
  | 2 => v = .pointer (some ⟨rb, 0, none⟩)
  | 3 => v = .pointer (some ⟨gb, 0, none⟩)
  | 4 => v = .int .i64 sq
  | 5 => v = .pointer (some ⟨gb, 1, none⟩)
  | 6 => v = .string mk
  | 7 => v = .pointer (some ⟨gb, 3, none⟩)
  | 8 => v = .int .i64 lo
  | 9 => v = .pointer (some ⟨rb, 0, none⟩)
  | 10 => v = .pointer (some ⟨rb, 1, none⟩)
  | 12 => v = .pointer (some ⟨rb, 0, none⟩)
  | 13 => v = .pointer (some ⟨rb, 2, none⟩)
  | 15 => v = .pointer (some ⟨rb, 0, none⟩)
  | 16 => v = .pointer (some ⟨rb, 4, none⟩)
  | _ => True
def frLdb (vb : Nat) (sq : Nat) (mk : ByteArray) (qq : Option Addr) (nL : Nat) (cp : Nat) (lo : Nat) (gb : Nat) (lb : Nat) (rb : Nat) (u4 : Value) (u5 : Value) (u9 : Value) (u10 : Value) (u63 : Value) (u64 : Value) (u65 : Value) (u66 : Value) (u67 : Value) (u68 : Value) (u69 : Value) (u70 : Value) (u71 : Value) (u72 : Value) (u73 : Value) (u74 : Value) (u75 : Value) (u76 : Value) (u77 : Value) (u78 : Value) (u79 : Value) (u80 : Value) (u81 : Value) (u82 : Value) (u83 : Value) (u84 : Value) (u85 : Value) (u86 : Value) (g : Nat → Value) : Act := { tmps := #[.pointer (some ⟨vb, 0, none⟩), .agg #[.int .i64 sq, .string mk, .slice qq nL cp, .int .i64 lo], undef, .pointer (some ⟨gb, 0, none⟩), u4, u5, .pointer (some ⟨lb, 0, none⟩), .nilIface, .func (Fn.func 96) #[] #[.pointer (some ⟨lb, 0, none⟩)], u9, u10, .tuple #[.pointer (some ⟨rb, 0, none⟩), .nilIface], .pointer (some ⟨vb, 0, none⟩), .tuple #[.pointer (some ⟨rb, 0, none⟩), .nilIface], .pointer (some ⟨rb, 0, none⟩), .nilIface, .nilIface, .bool false, undef, .pointer (some ⟨gb, 0, none⟩), .int .i64 sq, .bool false, .bool false, .pointer (some ⟨gb, 3, none⟩), .int .i64 lo, .bool false, .bool false, .bool false, .pointer (some ⟨gb, 3, none⟩), .int .i64 lo, .pointer (some ⟨gb, 0, none⟩), .int .i64 sq, .bool false, .bool false, .bool false, .pointer (some ⟨gb, 1, none⟩), .string mk, .int .i64 mk.size, .bool false, .bool false, .bool false, .pointer (some ⟨gb, 0, none⟩), .int .i64 sq, .bool false, .bool false, undef, undef, undef, undef, undef, undef, undef, undef, undef, .bool false, .bool false, undef, .func (Fn.func 96) #[] #[.pointer (some ⟨lb, 0, none⟩)], .pointer (some ⟨gb, 2, none⟩), .slice qq nL cp, .int .i64 nL, .int .i64 nL, .bool false, u63, u64, u65, u66, u67, u68, u69, u70, u71, u72, u73, u74, u75, u76, u77, u78, u79, u80, u81, u82, u83, u84, u85, u86, g 87, g 88, g 89, g 90, g 91, g 92, g 93, g 94, g 95, g 96, g 97, g 98, g 99, g 100, g 101, undef], defers := [] }
def dstLdb (i : Nat) : Nat := ([87, 88, 89, 90, 91, 92, 93, 94, 95, 96, 97, 1011, 98, 99, 1014, 100, 101, 1017] : List Nat).getD i (2000 + i)
def laysLdb (sq : Nat) (mk : ByteArray) (lo : Nat) (gb : Nat) (rb : Nat) (j : Nat) (v : Value) (_ : World) : Prop :=
  match j with
  | 0 => v = .pointer (some ⟨rb, 0, none⟩)
  | 1 => v = .pointer (some ⟨rb, 0, none⟩)
  | 2 => v = .pointer (some ⟨rb, 0, none⟩)
  | 3 => v = .pointer (some ⟨gb, 0, none⟩)
  | 4 => v = .int .i64 sq
  | 5 => v = .pointer (some ⟨gb, 1, none⟩)
  | 6 => v = .string mk
  | 7 => v = .pointer (some ⟨gb, 3, none⟩)
  | 8 => v = .int .i64 lo
  | 9 => v = .pointer (some ⟨rb, 0, none⟩)
  | 10 => v = .pointer (some ⟨rb, 1, none⟩)
  | 12 => v = .pointer (some ⟨rb, 0, none⟩)
  | 13 => v = .pointer (some ⟨rb, 2, none⟩)
  | 15 => v = .pointer (some ⟨rb, 0, none⟩)
  | 16 => v = .pointer (some ⟨rb, 4, none⟩)
  | _ => True
set_option maxRecDepth 100000 in
set_option maxHeartbeats 4000000 in
theorem load_any (w : World) (vb sq lo : Nat) (mk : ByteArray) (q : Option Addr) (cp : Nat) (Ls : List Cell) (hci : cellsIn w q Ls) (hasc : Asc Ls) (hrt : ∀ c ∈ Ls, rightE okV (putE c) = true) (hz : Ls.length ≤ 1000) (hlo : lo ≤ sq) (hsq : sq ≤ 1048576) (hmk : mk.size = 16) (h0 : sq = 0 → mk = noneS ∧ Ls = []) :
    Calls Tryz.prog 62 #[.pointer (some ⟨vb, 0, none⟩), .agg #[.int .i64 sq, .string mk, .slice q Ls.length cp, .int .i64 lo]] w fun r w' => ∃ rb D, r = .returned (.tuple #[.pointer (some ⟨rb, 0, none⟩), .nilIface]) ∧ rdIn w' D rb vb Ls.length ⟨sq, mk, putAll Ls [], lo⟩ ∧ step w w' none0 D := by
  have CI := Lib.hid hci
  have HA := Lib.hid hasc
  have HR := Lib.hid hrt
  have HM := Lib.hid hmk
  have H0 := Lib.hid h0
  have GB := Lib.hid (heap_alloc_at w (.cells #[.int .i64 sq, .string mk, .slice q Ls.length cp, .int .i64 lo] 29))
  have XB := Lib.hid (ext_alloc (.cells #[.int .i64 sq, .string mk, .slice q Ls.length cp, .int .i64 lo] 29) (ext_refl w))
  clear hci hasc hrt hmk h0
  go_enter Tryz.func62, Tryz.ntmps62
  go_wp2_with fail
  generalize w.alloc (.cells #[.int .i64 sq, .string mk, .slice q Ls.length cp, .int .i64 lo] 29) = w1 at GB XB ⊢
  have GL := Lib.hid (show w.heap.size < w1.heap.size from lt_of_heap GB.out)
  have GW := Lib.hid (show w.heap.size ≤ w.heap.size from Nat.le_refl _)
  generalize hgb : w.heap.size = gb at GB GL GW ⊢
  have HGB := Lib.hid hgb
  clear hgb
  refine (rnew_any vb w1).mono ?_
  rintro _ w2 ⟨rb, D, rfl, hr2, hs2, hx2⟩
  have R2 := Lib.hid hr2
  have S2 := Lib.hid hs2
  have X2 := Lib.hid hx2
  clear hr2 hs2 hx2
  have L0 := Lib.hid (show ldIn w (w2.alloc (.cells #[.pointer (some ⟨rb, 0, none⟩)] 110)) D gb w2.heap.size rb vb 0 #[.int .i64 sq, .string mk, .slice q Ls.length cp, .int .i64 lo] [] from by
    have ha := ext_alloc (.cells #[.pointer (some ⟨rb, 0, none⟩)] 110) (ext_refl w2)
    have hg2 := ((ext_iff.1 X2.out).block _ (lt_of_heap GB.out)).trans GB.out
    refine ⟨R2.out.ext ha, ((((step.of_ext none0 XB.out).trans S2.out).trans (.of_ext D ha))), ((ext_iff.1 ha).block _ (lt_of_heap hg2)).trans hg2, heap_alloc_at w2 _, fun hD => ?_, fun hD => ?_⟩
    · have := (S2.out.new hD).1; have := GL.out; omega
    · have := R2.out.lt _ hD; omega)
  clear R2 S2 X2 GB XB GL GW
  obtain ⟨g0, g1, g2, g3⟩ := cell4 L0.out.gb_
  have lg := lt_of_heap L0.out.gb_
  have d1 : decide ((sq : Int) < 0) = false := decide_eq_false (by omega)
  have d2 : decide ((lo : Int) < 0) = false := decide_eq_false (by omega)
  have d3 : ¬ sq < lo := by omega
  have d4 : ((mk.size : Int) != 16) = false := by have := HM.out; simp; omega
  by_cases hs0 : sq = 0
  · obtain ⟨rfl, rfl⟩ := H0.out hs0
    subst hs0
    have e0 : noneS.toList = [0, 0, 0, 0, 0, 0, 0, 0, 0, 0, 0, 0, 0, 0, 0, 0] := by rw [ByteArray.toList_eq]; rfl
    go_wp2_with fail
    generalize w2.alloc (.cells #[.pointer (some ⟨rb, 0, none⟩)] 110) = w3 at L0 g0 g1 g2 g3 lg ⊢
    generalize w2.heap.size = lb at L0 ⊢
    clear d1 d2 d3 d4 g0 g1 g2 g3 lg
    go_loopw [61] (fun iv wr => ∃ (k : Nat) (D : Blk), k ≤ ([] : List Cell).length ∧ iv = .int .i64 k ∧ Hid (ldIn w wr D gb lb rb vb k #[.int .i64 0, .string noneS, .slice q ([] : List Cell).length cp, .int .i64 lo] (putAll (([] : List Cell).take k) []))) (fun iv _ => ([] : List Cell).length - (intOf iv).toNat)
    case atStart => exact ⟨0, D, Nat.zero_le _, rfl, L0⟩
    case round =>
      clear L0
      obtain ⟨k, D, hk, rfl, LI⟩ := hrel
      by_cases hlt : k < ([] : List Cell).length
      · exact absurd hlt (by simp)
      · obtain rfl : k = 0 := by simpa using hk
        rw [List.take_nil] at LI
        go_wp2_with fail
        obtain ⟨tm, HTM⟩ := LI.out.rdr
        have RBK := Lib.hid HTM.tab.blk
        have TMM := Lib.hid HTM
        have LB := Lib.hid LI.out.lb_
        have GB := Lib.hid LI.out.gb_
        have NE := Lib.hid (show lb ≠ rb ∧ gb ≠ rb from ⟨fun e => LI.out.off.2 (e ▸ HTM.rb_), fun e => LI.out.off.1 (e ▸ HTM.rb_)⟩)
        have STT := Lib.hid LI.out.st
        clear HTM LI
        refine wp_region_slots (frLda vb q cp lo gb lb rb u4 u5 u9 u10 u63 u64 u65 u66 u67 u68 u69 u70 u71 u72 u73 u74 u75 u76 u77 u78 u79 u80 u81 u82 u83 u84 u85 u86) dstLda (fun _ => undef) (laysLda 0 noneS lo gb rb) (fun L g w => stL wr rb vb 0 lo noneS tm (L 11) (L 14) (L 17) w) (fun w w' => True) (by kernel_rfl) (by kernel_rfl) rfl ?_ (by kernel_rfl) ⟨grown_drawn _ _ _, RBK.out⟩ ?_ ?_
        · exact fun _ _ _ _ _ h => h
        · refine ⟨?_, ?_, ?_, ?_, ?_, ?_, ?_, ?_, ?_, ?_, ?_, ?_, ?_, ?_, ?_, ?_, ?_, ?_, trivial⟩
          all_goals (intro L gs w1 hLi hdeps hR hC; refine ends_of fun Q hQ => ?_)
          · have HQ := fun (a' : Act) (va : Value) (w' : World) (h1 : a' = frLda vb q cp lo gb lb rb u4 u5 u9 u10 u63 u64 u65 u66 u67 u68 u69 u70 u71 u72 u73 u74 u75 u76 u77 u78 u79 u80 u81 u82 u83 u84 u85 u86 (upd1 gs 87 va)) h2 (h3 : laysLda 0 noneS lo gb rb 0 va w') h4 => hQ.out a' w' ⟨va, h1, h2, h3, h4⟩
            have bl := (hC.1.block lb (lt_of_heap LB.out) (fun e => NE.out.1 (Option.some.inj e))).trans LB.out
            have zl : w1.cell? ⟨lb, 0, none⟩ = some (.pointer (some ⟨rb, 0, none⟩)) := by rw [cell_in, bl]; rfl
            have lw1 := lt_of_heap bl
            unfold frLda
            go_wp2_with fail
            exact HQ _ (.pointer (some ⟨rb, 0, none⟩)) _ (by simp only [frLda, upd1, Nat.reduceEqDiff, reduceIte]) trivial rfl hC
          · have HQ := fun (a' : Act) (va : Value) (w' : World) (h1 : a' = frLda vb q cp lo gb lb rb u4 u5 u9 u10 u63 u64 u65 u66 u67 u68 u69 u70 u71 u72 u73 u74 u75 u76 u77 u78 u79 u80 u81 u82 u83 u84 u85 u86 (upd1 gs 88 va)) h2 (h3 : laysLda 0 noneS lo gb rb 1 va w') h4 => hQ.out a' w' ⟨va, h1, h2, h3, h4⟩
            have bl := (hC.1.block lb (lt_of_heap LB.out) (fun e => NE.out.1 (Option.some.inj e))).trans LB.out
            have zl : w1.cell? ⟨lb, 0, none⟩ = some (.pointer (some ⟨rb, 0, none⟩)) := by rw [cell_in, bl]; rfl
            have lw1 := lt_of_heap bl
            unfold frLda
            go_wp2_with fail
            exact HQ _ (.pointer (some ⟨rb, 0, none⟩)) _ (by simp only [frLda, upd1, Nat.reduceEqDiff, reduceIte]) trivial rfl hC
          · have HQ := fun (a' : Act) (va : Value) (w' : World) (h1 : a' = frLda vb q cp lo gb lb rb u4 u5 u9 u10 u63 u64 u65 u66 u67 u68 u69 u70 u71 u72 u73 u74 u75 u76 u77 u78 u79 u80 u81 u82 u83 u84 u85 u86 (upd1 gs 89 va)) h2 (h3 : laysLda 0 noneS lo gb rb 2 va w') h4 => hQ.out a' w' ⟨va, h1, h2, h3, h4⟩
            have bl := (hC.1.block lb (lt_of_heap LB.out) (fun e => NE.out.1 (Option.some.inj e))).trans LB.out
            have zl : w1.cell? ⟨lb, 0, none⟩ = some (.pointer (some ⟨rb, 0, none⟩)) := by rw [cell_in, bl]; rfl
            have lw1 := lt_of_heap bl
            unfold frLda
            go_wp2_with fail
            exact HQ _ (.pointer (some ⟨rb, 0, none⟩)) _ (by simp only [frLda, upd1, Nat.reduceEqDiff, reduceIte]) trivial rfl hC
          · have HQ := fun (a' : Act) (va : Value) (w' : World) (h1 : a' = frLda vb q cp lo gb lb rb u4 u5 u9 u10 u63 u64 u65 u66 u67 u68 u69 u70 u71 u72 u73 u74 u75 u76 u77 u78 u79 u80 u81 u82 u83 u84 u85 u86 (upd1 gs 90 va)) h2 (h3 : laysLda 0 noneS lo gb rb 3 va w') h4 => hQ.out a' w' ⟨va, h1, h2, h3, h4⟩
            unfold frLda
            go_wp2_with fail
            exact HQ _ (.pointer (some ⟨gb, 0, none⟩)) _ (by simp only [frLda, upd1, Nat.reduceEqDiff, reduceIte]) trivial rfl hC
          · have HQ := fun (a' : Act) (va : Value) (w' : World) (h1 : a' = frLda vb q cp lo gb lb rb u4 u5 u9 u10 u63 u64 u65 u66 u67 u68 u69 u70 u71 u72 u73 u74 u75 u76 u77 u78 u79 u80 u81 u82 u83 u84 u85 u86 (upd1 gs 91 va)) h2 (h3 : laysLda 0 noneS lo gb rb 4 va w') h4 => hQ.out a' w' ⟨va, h1, h2, h3, h4⟩
            have r3 : gs 90 = .pointer (some ⟨gb, 0, none⟩) := hR 3 (hdeps ⟨3, .data⟩ (by simp) rfl)
            have bg := (hC.1.block gb (lt_of_heap GB.out) (fun e => NE.out.2 (Option.some.inj e))).trans GB.out
            obtain ⟨z0, z1, z2, z3⟩ := cell4 bg
            have lw1 := lt_of_heap bg
            unfold frLda
            go_wp2_with fail
            exact HQ _ (.int .i64 0) _ (by simp only [frLda, upd1, r3, Nat.reduceEqDiff, reduceIte]) trivial rfl hC
          · have HQ := fun (a' : Act) (va : Value) (w' : World) (h1 : a' = frLda vb q cp lo gb lb rb u4 u5 u9 u10 u63 u64 u65 u66 u67 u68 u69 u70 u71 u72 u73 u74 u75 u76 u77 u78 u79 u80 u81 u82 u83 u84 u85 u86 (upd1 gs 92 va)) h2 (h3 : laysLda 0 noneS lo gb rb 5 va w') h4 => hQ.out a' w' ⟨va, h1, h2, h3, h4⟩
            unfold frLda
            go_wp2_with fail
            exact HQ _ (.pointer (some ⟨gb, 1, none⟩)) _ (by simp only [frLda, upd1, Nat.reduceEqDiff, reduceIte]) trivial rfl hC
          · have HQ := fun (a' : Act) (va : Value) (w' : World) (h1 : a' = frLda vb q cp lo gb lb rb u4 u5 u9 u10 u63 u64 u65 u66 u67 u68 u69 u70 u71 u72 u73 u74 u75 u76 u77 u78 u79 u80 u81 u82 u83 u84 u85 u86 (upd1 gs 93 va)) h2 (h3 : laysLda 0 noneS lo gb rb 6 va w') h4 => hQ.out a' w' ⟨va, h1, h2, h3, h4⟩
            have r5 : gs 92 = .pointer (some ⟨gb, 1, none⟩) := hR 5 (hdeps ⟨5, .data⟩ (by simp) rfl)
            have bg := (hC.1.block gb (lt_of_heap GB.out) (fun e => NE.out.2 (Option.some.inj e))).trans GB.out
            obtain ⟨z0, z1, z2, z3⟩ := cell4 bg
            have lw1 := lt_of_heap bg
            unfold frLda
            go_wp2_with fail
            exact HQ _ (.string noneS) _ (by simp only [frLda, upd1, r5, Nat.reduceEqDiff, reduceIte]) trivial rfl hC
          · have HQ := fun (a' : Act) (va : Value) (w' : World) (h1 : a' = frLda vb q cp lo gb lb rb u4 u5 u9 u10 u63 u64 u65 u66 u67 u68 u69 u70 u71 u72 u73 u74 u75 u76 u77 u78 u79 u80 u81 u82 u83 u84 u85 u86 (upd1 gs 94 va)) h2 (h3 : laysLda 0 noneS lo gb rb 7 va w') h4 => hQ.out a' w' ⟨va, h1, h2, h3, h4⟩
            unfold frLda
            go_wp2_with fail
            exact HQ _ (.pointer (some ⟨gb, 3, none⟩)) _ (by simp only [frLda, upd1, Nat.reduceEqDiff, reduceIte]) trivial rfl hC
          · have HQ := fun (a' : Act) (va : Value) (w' : World) (h1 : a' = frLda vb q cp lo gb lb rb u4 u5 u9 u10 u63 u64 u65 u66 u67 u68 u69 u70 u71 u72 u73 u74 u75 u76 u77 u78 u79 u80 u81 u82 u83 u84 u85 u86 (upd1 gs 95 va)) h2 (h3 : laysLda 0 noneS lo gb rb 8 va w') h4 => hQ.out a' w' ⟨va, h1, h2, h3, h4⟩
            have r7 : gs 94 = .pointer (some ⟨gb, 3, none⟩) := hR 7 (hdeps ⟨7, .data⟩ (by simp) rfl)
            have bg := (hC.1.block gb (lt_of_heap GB.out) (fun e => NE.out.2 (Option.some.inj e))).trans GB.out
            obtain ⟨z0, z1, z2, z3⟩ := cell4 bg
            have lw1 := lt_of_heap bg
            unfold frLda
            go_wp2_with fail
            exact HQ _ (.int .i64 lo) _ (by simp only [frLda, upd1, r7, Nat.reduceEqDiff, reduceIte]) trivial rfl hC
          · have HQ := fun (a' : Act) (va : Value) (w' : World) (h1 : a' = frLda vb q cp lo gb lb rb u4 u5 u9 u10 u63 u64 u65 u66 u67 u68 u69 u70 u71 u72 u73 u74 u75 u76 u77 u78 u79 u80 u81 u82 u83 u84 u85 u86 (upd1 gs 96 va)) h2 (h3 : laysLda 0 noneS lo gb rb 9 va w') h4 => hQ.out a' w' ⟨va, h1, h2, h3, h4⟩
            have r0 : gs 87 = .pointer (some ⟨rb, 0, none⟩) := hR 0 (hdeps ⟨0, .data⟩ (by simp) rfl)
            unfold frLda
            go_wp2_with fail
            exact HQ _ (.pointer (some ⟨rb, 0, none⟩)) _ (by simp only [frLda, upd1, r0, Nat.reduceEqDiff, reduceIte]) trivial rfl hC
          · have HQ := fun (a' : Act) (va : Value) (w' : World) (h1 : a' = frLda vb q cp lo gb lb rb u4 u5 u9 u10 u63 u64 u65 u66 u67 u68 u69 u70 u71 u72 u73 u74 u75 u76 u77 u78 u79 u80 u81 u82 u83 u84 u85 u86 (upd1 gs 97 va)) h2 (h3 : laysLda 0 noneS lo gb rb 10 va w') h4 => hQ.out a' w' ⟨va, h1, h2, h3, h4⟩
            have r9 : gs 96 = .pointer (some ⟨rb, 0, none⟩) := hR 9 (hdeps ⟨9, .data⟩ (by simp) rfl)
            unfold frLda
            go_wp2_with fail
            exact HQ _ (.pointer (some ⟨rb, 1, none⟩)) _ (by simp only [frLda, upd1, r9, Nat.reduceEqDiff, reduceIte]) trivial rfl hC
          · have HQ := fun (a' : Act) (va : Value) (w' : World) (h1 : a' = frLda vb q cp lo gb lb rb u4 u5 u9 u10 u63 u64 u65 u66 u67 u68 u69 u70 u71 u72 u73 u74 u75 u76 u77 u78 u79 u80 u81 u82 u83 u84 u85 u86 (upd1 gs 1011 va)) h2 (h3 : laysLda 0 noneS lo gb rb 11 va w') h4 => hQ.out a' w' ⟨va, h1, h2, h3, h4⟩
            have r4 : gs 91 = .int .i64 0 := hR 4 (hdeps ⟨4, .data⟩ (by simp) rfl)
            have r10 : gs 97 = .pointer (some ⟨rb, 1, none⟩) := hR 10 (hdeps ⟨10, .data⟩ (by simp) rfl)
            have b0 := hC.2
            have ff := free_of_heap b0
            have lw1 := lt_of_heap b0
            generalize (if L 11 = true then (((0 : Nat)) : Int) else 0) = zz at b0
            generalize (if L 14 = true then noneS else noneS) = zm at b0
            generalize (if L 17 = true then (lo : Int) else 0) = zo at b0
            obtain ⟨y0, y1, y2, y3, y4⟩ := cell5 b0
            unfold frLda
            go_wp2_with fail
            exact HQ _ undef _ (by simp only [frLda, upd1, r4, r10, Nat.reduceEqDiff, reduceIte]) trivial trivial (stL.put1 hC)
          · have HQ := fun (a' : Act) (va : Value) (w' : World) (h1 : a' = frLda vb q cp lo gb lb rb u4 u5 u9 u10 u63 u64 u65 u66 u67 u68 u69 u70 u71 u72 u73 u74 u75 u76 u77 u78 u79 u80 u81 u82 u83 u84 u85 u86 (upd1 gs 98 va)) h2 (h3 : laysLda 0 noneS lo gb rb 12 va w') h4 => hQ.out a' w' ⟨va, h1, h2, h3, h4⟩
            have r1 : gs 88 = .pointer (some ⟨rb, 0, none⟩) := hR 1 (hdeps ⟨1, .data⟩ (by simp) rfl)
            unfold frLda
            go_wp2_with fail
            exact HQ _ (.pointer (some ⟨rb, 0, none⟩)) _ (by simp only [frLda, upd1, r1, Nat.reduceEqDiff, reduceIte]) trivial rfl hC
          · have HQ := fun (a' : Act) (va : Value) (w' : World) (h1 : a' = frLda vb q cp lo gb lb rb u4 u5 u9 u10 u63 u64 u65 u66 u67 u68 u69 u70 u71 u72 u73 u74 u75 u76 u77 u78 u79 u80 u81 u82 u83 u84 u85 u86 (upd1 gs 99 va)) h2 (h3 : laysLda 0 noneS lo gb rb 13 va w') h4 => hQ.out a' w' ⟨va, h1, h2, h3, h4⟩
            have r12 : gs 98 = .pointer (some ⟨rb, 0, none⟩) := hR 12 (hdeps ⟨12, .data⟩ (by simp) rfl)
            unfold frLda
            go_wp2_with fail
            exact HQ _ (.pointer (some ⟨rb, 2, none⟩)) _ (by simp only [frLda, upd1, r12, Nat.reduceEqDiff, reduceIte]) trivial rfl hC
          · have HQ := fun (a' : Act) (va : Value) (w' : World) (h1 : a' = frLda vb q cp lo gb lb rb u4 u5 u9 u10 u63 u64 u65 u66 u67 u68 u69 u70 u71 u72 u73 u74 u75 u76 u77 u78 u79 u80 u81 u82 u83 u84 u85 u86 (upd1 gs 1014 va)) h2 (h3 : laysLda 0 noneS lo gb rb 14 va w') h4 => hQ.out a' w' ⟨va, h1, h2, h3, h4⟩
            have r6 : gs 93 = .string noneS := hR 6 (hdeps ⟨6, .data⟩ (by simp) rfl)
            have r13 : gs 99 = .pointer (some ⟨rb, 2, none⟩) := hR 13 (hdeps ⟨13, .data⟩ (by simp) rfl)
            have b0 := hC.2
            have ff := free_of_heap b0
            have lw1 := lt_of_heap b0
            generalize (if L 11 = true then (((0 : Nat)) : Int) else 0) = zz at b0
            generalize (if L 14 = true then noneS else noneS) = zm at b0
            generalize (if L 17 = true then (lo : Int) else 0) = zo at b0
            obtain ⟨y0, y1, y2, y3, y4⟩ := cell5 b0
            unfold frLda
            go_wp2_with fail
            exact HQ _ undef _ (by simp only [frLda, upd1, r6, r13, Nat.reduceEqDiff, reduceIte]) trivial trivial (stL.put2 hC)
          · have HQ := fun (a' : Act) (va : Value) (w' : World) (h1 : a' = frLda vb q cp lo gb lb rb u4 u5 u9 u10 u63 u64 u65 u66 u67 u68 u69 u70 u71 u72 u73 u74 u75 u76 u77 u78 u79 u80 u81 u82 u83 u84 u85 u86 (upd1 gs 100 va)) h2 (h3 : laysLda 0 noneS lo gb rb 15 va w') h4 => hQ.out a' w' ⟨va, h1, h2, h3, h4⟩
            have r2 : gs 89 = .pointer (some ⟨rb, 0, none⟩) := hR 2 (hdeps ⟨2, .data⟩ (by simp) rfl)
            unfold frLda
            go_wp2_with fail
            exact HQ _ (.pointer (some ⟨rb, 0, none⟩)) _ (by simp only [frLda, upd1, r2, Nat.reduceEqDiff, reduceIte]) trivial rfl hC
          · have HQ := fun (a' : Act) (va : Value) (w' : World) (h1 : a' = frLda vb q cp lo gb lb rb u4 u5 u9 u10 u63 u64 u65 u66 u67 u68 u69 u70 u71 u72 u73 u74 u75 u76 u77 u78 u79 u80 u81 u82 u83 u84 u85 u86 (upd1 gs 101 va)) h2 (h3 : laysLda 0 noneS lo gb rb 16 va w') h4 => hQ.out a' w' ⟨va, h1, h2, h3, h4⟩
            have r15 : gs 100 = .pointer (some ⟨rb, 0, none⟩) := hR 15 (hdeps ⟨15, .data⟩ (by simp) rfl)
            unfold frLda
            go_wp2_with fail
            exact HQ _ (.pointer (some ⟨rb, 4, none⟩)) _ (by simp only [frLda, upd1, r15, Nat.reduceEqDiff, reduceIte]) trivial rfl hC
          · have HQ := fun (a' : Act) (va : Value) (w' : World) (h1 : a' = frLda vb q cp lo gb lb rb u4 u5 u9 u10 u63 u64 u65 u66 u67 u68 u69 u70 u71 u72 u73 u74 u75 u76 u77 u78 u79 u80 u81 u82 u83 u84 u85 u86 (upd1 gs 1017 va)) h2 (h3 : laysLda 0 noneS lo gb rb 17 va w') h4 => hQ.out a' w' ⟨va, h1, h2, h3, h4⟩
            have r8 : gs 95 = .int .i64 lo := hR 8 (hdeps ⟨8, .data⟩ (by simp) rfl)
            have r16 : gs 101 = .pointer (some ⟨rb, 4, none⟩) := hR 16 (hdeps ⟨16, .data⟩ (by simp) rfl)
            have b0 := hC.2
            have ff := free_of_heap b0
            have lw1 := lt_of_heap b0
            generalize (if L 11 = true then (((0 : Nat)) : Int) else 0) = zz at b0
            generalize (if L 14 = true then noneS else noneS) = zm at b0
            generalize (if L 17 = true then (lo : Int) else 0) = zo at b0
            obtain ⟨y0, y1, y2, y3, y4⟩ := cell5 b0
            unfold frLda
            go_wp2_with fail
            exact HQ _ undef _ (by simp only [frLda, upd1, r8, r16, Nat.reduceEqDiff, reduceIte]) trivial trivial (stL.put3 hC)
        intro L13 g13 w13 hall hR hC
        have HC := hC
        rw [hall 11 (by decide), hall 14 (by decide), hall 17 (by decide)] at HC
        have BLL := Lib.hid ((HC.1.block lb (lt_of_heap LB.out) (fun e => NE.out.1 (Option.some.inj e))).trans LB.out)
        have RB9 := Lib.hid HC
        clear hC hall hR HC
        have zl : w13.cell? ⟨lb, 0, none⟩ = some (.pointer (some ⟨rb, 0, none⟩)) := by rw [cell_in, BLL.out]; rfl
        have lw := lt_of_heap BLL.out
        unfold frLda
        go_wp2_with fail
        go_ret2

        obtain ⟨h9, hb9⟩ := RB9.out
        rw [if_pos rfl, if_pos rfl, if_pos rfl] at hb9
        refine ⟨rb, rfl, D, ⟨tm, ?_, TMM.out.rb_, TMM.out.tm_, ?_, hsq, hlo⟩, STT.out.trans (.of_grown h9 (fun j hj => by cases hj; exact TMM.out.rb_))⟩
        · refine ⟨hb9, TMM.out.tab.nil, fun c hc => (TMM.out.tab.map c hc).kept h9 (fun e => ?_)⟩
          injection e with e
          subst e
          have := TMM.out.tab
          rw [hc] at this
          exact this.ne rfl
        · exact fun i hi => Nat.lt_of_lt_of_le (TMM.out.lt i hi) h9.size
  · have d5 : ((sq : Int) == 0) = false := beq_eq_false_iff_ne.2 (by omega)
    go_wp2_with fail
    generalize w2.alloc (.cells #[.pointer (some ⟨rb, 0, none⟩)] 110) = w3 at L0 g0 g1 g2 g3 lg ⊢
    generalize w2.heap.size = lb at L0 ⊢
    clear d1 d2 d3 d4 g0 g1 g2 g3 lg
    go_loopw [61] (fun iv wr => ∃ (k : Nat) (D : Blk), k ≤ Ls.length ∧ iv = .int .i64 k ∧ Hid (ldIn w wr D gb lb rb vb k #[.int .i64 sq, .string mk, .slice q Ls.length cp, .int .i64 lo] (putAll (Ls.take k) []))) (fun iv _ => Ls.length - (intOf iv).toNat)
    case atStart => exact ⟨0, D, Nat.zero_le _, rfl, L0⟩
    case round =>
      clear L0
      obtain ⟨k, D, hk, rfl, LI⟩ := hrel
      by_cases hlt : k < Ls.length
      · have hlt' : (k : Int) < Ls.length := by omega
        have hx := List.getElem?_eq_getElem hlt
        have hrc := HR.out _ (List.getElem_mem hlt)
        have HP := Lib.hid (show putAll (Ls.take (k + 1)) [] = putT Ls[k] (putAll (Ls.take k) []) from by rw [List.take_add_one, hx, Option.toList_some, putAll_snoc])
        have CIX := Lib.hid (fun W (hW : ∃ z, W = ext wr z) => cellsIn_x CI.out (ext_trans LI.out.st.ext hW))
        obtain ⟨gw, rfl, hgw, r0, r1, r2, r3⟩ := cellsIn_r4 (CIX.out wr (ext_refl wr)) hx
        have TC := fun W (h0 : 0 < k) => (tcompare_any Ls[k - 1]! Ls[k] W)
        have AS := Lib.hid (fun (h0 : 0 < k) => show ccmp Ls[k - 1]! Ls[k] < 0 from by
          have h1 : k - 1 < Ls.length := by omega
          have := List.pairwise_iff_getElem.1 HA.out (k - 1) k h1 hlt (by omega)
          rw [getElem!_pos Ls (k - 1) h1]
          exact ccmp_neg this)
        have PV := Lib.hid (fun W (hW : ∃ z, W = ext wr z) (h0 : 0 < k) => cellsIn_r4 (i := k - 1) (c := Ls[k - 1]!) (CIX.out W hW) (by rw [getElem!_pos Ls (k - 1) (by omega)]; exact List.getElem?_eq_getElem _))
        generalize Ls[k] = c at hx hrc HP r0 r1 r2 r3 TC AS
        generalize Ls[k - 1]! = c' at TC AS PV
        obtain ⟨c1, c2, c3, c4⟩ := c
        obtain ⟨f1, f2, f3, f4⟩ := c'
        dsimp only at r0 r1 r2 r3
        have gx := hgw
        clear hx
        have HG := Lib.hid (heap_alloc_at wr (.cells #[.string c1, .string c2, .string c3, .string c4] 152))
        have LA := Lib.hid (LI.out.ext (ext_alloc (.cells #[.string c1, .string c2, .string c3, .string c4] 152) (ext_refl wr)))
        have XA := Lib.hid (ext_alloc (.cells #[.string c1, .string c2, .string c3, .string c4] 152) (ext_refl wr))
        go_wp2_with fail
        generalize wr.alloc (.cells #[.string c1, .string c2, .string c3, .string c4] 152) = wa at HG LA XA ⊢
        generalize wr.heap.size = cb at HG ⊢
        clear r0 r1 r2 r3
        obtain ⟨d0, d1, d2, d3⟩ := cell_cells (c := ⟨c1, c2, c3, c4⟩) HG.out
        dsimp only at d0 d1 d2 d3
        have lc := lt_of_heap HG.out
        obtain ⟨g0, g1, g2, g3⟩ := cell4 LA.out.gb_
        have lg := lt_of_heap LA.out.gb_
        rcases Nat.eq_zero_or_pos k with hk0 | hk0
        · have hk1 : ¬ 0 < k := by omega
          clear hk0 TC AS PV
          refine wp_region_tail 16 (by kernel_rfl) (by kernel_rfl) ?_
          simp only [List.take_succ_cons, List.take_zero, List.drop_succ_cons, List.drop_zero]
          repeat (go_big_quiet_step (fail))
          refine wpQuiet_nil ?_
          rintro _ ⟨x, rfl⟩
          have hx : ∃ x', ext wa x = ext wa x' := ⟨x, rfl⟩
          have LX := Lib.hid (LA.out.ext hx)
          generalize ext wa x = wx at LX ⊢
          clear hx d0 d1 d2 d3 lc g0 g1 g2 g3 lg LA XA HG
          have PU := put1_any ⟨c1, c2, c3, c4⟩ wx D lb rb vb k _ LX.out.rdr LX.out.lb_ hrc (by omega)
          unfold cellA at PU
          dsimp only at PU
          go_wp2_with fail
          refine PU.mono ?_
          rintro _ wp ⟨rfl, D', hr', hs'⟩
          have LP := Lib.hid (LX.out.put hr' hs')
          clear hr' hs' PU LX
          go_wp2_with fail
          go_roundw
          case rel => exact ⟨k + 1, D', hlt, by go_num, Lib.hid (by rw [HP.out]; exact LP.out)⟩
          case measure => simp [intOf]; omega
        · obtain ⟨gw', hq', hg', p0, p1, p2, p3⟩ := PV.out wa XA.out hk0
          simp only [Option.some.injEq, Addr.mk.injEq, and_true] at hq'
          subst hq'
          have hc1 : (k : Int) - 1 = ((k - 1 : Nat) : Int) := by omega
          have hk1 : ((k - 1 : Nat) : Int) < Ls.length := by omega
          unfold cellA at TC
          dsimp only at TC
          have hcm := AS.out hk0
          generalize ccmp ⟨f1, f2, f3, f4⟩ ⟨c1, c2, c3, c4⟩ = r at TC hcm
          have hcm' : decide (r ≥ 0) = false := decide_eq_false (by omega)
          clear hcm AS PV
          refine wp_region_tail 16 (by kernel_rfl) (by kernel_rfl) ?_
          simp only [List.take_succ_cons, List.take_zero, List.drop_succ_cons, List.drop_zero]
          repeat (go_big_quiet_step ((go_at_call 98; refine (TC _ hk0).mono ?_; rintro _ _ ⟨rfl, hx⟩; exact ⟨rfl, ext_trans ⟨_, rfl⟩ hx⟩)))
          refine wpQuiet_nil ?_
          rintro _ ⟨x, rfl⟩
          have hx : ∃ x', ext wa x = ext wa x' := ⟨x, rfl⟩
          have LX := Lib.hid (LA.out.ext hx)
          generalize ext wa x = wx at LX ⊢
          clear hx p0 p1 p2 p3 d0 d1 d2 d3 lc g0 g1 g2 g3 lg LA XA HG
          have PU := put1_any ⟨c1, c2, c3, c4⟩ wx D lb rb vb k _ LX.out.rdr LX.out.lb_ hrc (by omega)
          unfold cellA at PU
          dsimp only at PU
          go_wp2_with fail
          refine PU.mono ?_
          rintro _ wp ⟨rfl, D', hr', hs'⟩
          have LP := Lib.hid (LX.out.put hr' hs')
          clear hr' hs' PU LX
          go_wp2_with fail
          go_roundw
          case rel => exact ⟨k + 1, D', hlt, by go_num, Lib.hid (by rw [HP.out]; exact LP.out)⟩
          case measure => simp [intOf]; omega
      · obtain rfl : k = Ls.length := by omega
        rw [List.take_length] at LI
        go_wp2_with fail
        obtain ⟨tm, HTM⟩ := LI.out.rdr
        have RBK := Lib.hid HTM.tab.blk
        have TMM := Lib.hid HTM
        have LB := Lib.hid LI.out.lb_
        have GB := Lib.hid LI.out.gb_
        have NE := Lib.hid (show lb ≠ rb ∧ gb ≠ rb from ⟨fun e => LI.out.off.2 (e ▸ HTM.rb_), fun e => LI.out.off.1 (e ▸ HTM.rb_)⟩)
        have STT := Lib.hid LI.out.st
        clear HTM LI
        refine wp_region_slots (frLdb vb sq mk q Ls.length cp lo gb lb rb u4 u5 u9 u10 u63 u64 u65 u66 u67 u68 u69 u70 u71 u72 u73 u74 u75 u76 u77 u78 u79 u80 u81 u82 u83 u84 u85 u86) dstLdb (fun _ => undef) (laysLdb sq mk lo gb rb) (fun L g w => stL wr rb vb sq lo mk tm (L 11) (L 14) (L 17) w) (fun w w' => True) (by kernel_rfl) (by kernel_rfl) rfl ?_ (by kernel_rfl) ⟨grown_drawn _ _ _, RBK.out⟩ ?_ ?_
        · exact fun _ _ _ _ _ h => h
        · refine ⟨?_, ?_, ?_, ?_, ?_, ?_, ?_, ?_, ?_, ?_, ?_, ?_, ?_, ?_, ?_, ?_, ?_, ?_, trivial⟩
          all_goals (intro L gs w1 hLi hdeps hR hC; refine ends_of fun Q hQ => ?_)
          · have HQ := fun (a' : Act) (va : Value) (w' : World) (h1 : a' = frLdb vb sq mk q Ls.length cp lo gb lb rb u4 u5 u9 u10 u63 u64 u65 u66 u67 u68 u69 u70 u71 u72 u73 u74 u75 u76 u77 u78 u79 u80 u81 u82 u83 u84 u85 u86 (upd1 gs 87 va)) h2 (h3 : laysLdb sq mk lo gb rb 0 va w') h4 => hQ.out a' w' ⟨va, h1, h2, h3, h4⟩
            have bl := (hC.1.block lb (lt_of_heap LB.out) (fun e => NE.out.1 (Option.some.inj e))).trans LB.out
            have zl : w1.cell? ⟨lb, 0, none⟩ = some (.pointer (some ⟨rb, 0, none⟩)) := by rw [cell_in, bl]; rfl
            have lw1 := lt_of_heap bl
            unfold frLdb
            go_wp2_with fail
            exact HQ _ (.pointer (some ⟨rb, 0, none⟩)) _ (by simp only [frLdb, upd1, Nat.reduceEqDiff, reduceIte]) trivial rfl hC
          · have HQ := fun (a' : Act) (va : Value) (w' : World) (h1 : a' = frLdb vb sq mk q Ls.length cp lo gb lb rb u4 u5 u9 u10 u63 u64 u65 u66 u67 u68 u69 u70 u71 u72 u73 u74 u75 u76 u77 u78 u79 u80 u81 u82 u83 u84 u85 u86 (upd1 gs 88 va)) h2 (h3 : laysLdb sq mk lo gb rb 1 va w') h4 => hQ.out a' w' ⟨va, h1, h2, h3, h4⟩
            have bl := (hC.1.block lb (lt_of_heap LB.out) (fun e => NE.out.1 (Option.some.inj e))).trans LB.out
            have zl : w1.cell? ⟨lb, 0, none⟩ = some (.pointer (some ⟨rb, 0, none⟩)) := by rw [cell_in, bl]; rfl
            have lw1 := lt_of_heap bl
            unfold frLdb
            go_wp2_with fail
            exact HQ _ (.pointer (some ⟨rb, 0, none⟩)) _ (by simp only [frLdb, upd1, Nat.reduceEqDiff, reduceIte]) trivial rfl hC
          · have HQ := fun (a' : Act) (va : Value) (w' : World) (h1 : a' = frLdb vb sq mk q Ls.length cp lo gb lb rb u4 u5 u9 u10 u63 u64 u65 u66 u67 u68 u69 u70 u71 u72 u73 u74 u75 u76 u77 u78 u79 u80 u81 u82 u83 u84 u85 u86 (upd1 gs 89 va)) h2 (h3 : laysLdb sq mk lo gb rb 2 va w') h4 => hQ.out a' w' ⟨va, h1, h2, h3, h4⟩
            have bl := (hC.1.block lb (lt_of_heap LB.out) (fun e => NE.out.1 (Option.some.inj e))).trans LB.out
            have zl : w1.cell? ⟨lb, 0, none⟩ = some (.pointer (some ⟨rb, 0, none⟩)) := by rw [cell_in, bl]; rfl
            have lw1 := lt_of_heap bl
            unfold frLdb
            go_wp2_with fail
            exact HQ _ (.pointer (some ⟨rb, 0, none⟩)) _ (by simp only [frLdb, upd1, Nat.reduceEqDiff, reduceIte]) trivial rfl hC
          · have HQ := fun (a' : Act) (va : Value) (w' : World) (h1 : a' = frLdb vb sq mk q Ls.length cp lo gb lb rb u4 u5 u9 u10 u63 u64 u65 u66 u67 u68 u69 u70 u71 u72 u73 u74 u75 u76 u77 u78 u79 u80 u81 u82 u83 u84 u85 u86 (upd1 gs 90 va)) h2 (h3 : laysLdb sq mk lo gb rb 3 va w') h4 => hQ.out a' w' ⟨va, h1, h2, h3, h4⟩
            unfold frLdb
            go_wp2_with fail
            exact HQ _ (.pointer (some ⟨gb, 0, none⟩)) _ (by simp only [frLdb, upd1, Nat.reduceEqDiff, reduceIte]) trivial rfl hC
          · have HQ := fun (a' : Act) (va : Value) (w' : World) (h1 : a' = frLdb vb sq mk q Ls.length cp lo gb lb rb u4 u5 u9 u10 u63 u64 u65 u66 u67 u68 u69 u70 u71 u72 u73 u74 u75 u76 u77 u78 u79 u80 u81 u82 u83 u84 u85 u86 (upd1 gs 91 va)) h2 (h3 : laysLdb sq mk lo gb rb 4 va w') h4 => hQ.out a' w' ⟨va, h1, h2, h3, h4⟩
            have r3 : gs 90 = .pointer (some ⟨gb, 0, none⟩) := hR 3 (hdeps ⟨3, .data⟩ (by simp) rfl)
            have bg := (hC.1.block gb (lt_of_heap GB.out) (fun e => NE.out.2 (Option.some.inj e))).trans GB.out
            obtain ⟨z0, z1, z2, z3⟩ := cell4 bg
            have lw1 := lt_of_heap bg
            unfold frLdb
            go_wp2_with fail
            exact HQ _ (.int .i64 sq) _ (by simp only [frLdb, upd1, r3, Nat.reduceEqDiff, reduceIte]) trivial rfl hC
          · have HQ := fun (a' : Act) (va : Value) (w' : World) (h1 : a' = frLdb vb sq mk q Ls.length cp lo gb lb rb u4 u5 u9 u10 u63 u64 u65 u66 u67 u68 u69 u70 u71 u72 u73 u74 u75 u76 u77 u78 u79 u80 u81 u82 u83 u84 u85 u86 (upd1 gs 92 va)) h2 (h3 : laysLdb sq mk lo gb rb 5 va w') h4 => hQ.out a' w' ⟨va, h1, h2, h3, h4⟩
            unfold frLdb
            go_wp2_with fail
            exact HQ _ (.pointer (some ⟨gb, 1, none⟩)) _ (by simp only [frLdb, upd1, Nat.reduceEqDiff, reduceIte]) trivial rfl hC
          · have HQ := fun (a' : Act) (va : Value) (w' : World) (h1 : a' = frLdb vb sq mk q Ls.length cp lo gb lb rb u4 u5 u9 u10 u63 u64 u65 u66 u67 u68 u69 u70 u71 u72 u73 u74 u75 u76 u77 u78 u79 u80 u81 u82 u83 u84 u85 u86 (upd1 gs 93 va)) h2 (h3 : laysLdb sq mk lo gb rb 6 va w') h4 => hQ.out a' w' ⟨va, h1, h2, h3, h4⟩
            have r5 : gs 92 = .pointer (some ⟨gb, 1, none⟩) := hR 5 (hdeps ⟨5, .data⟩ (by simp) rfl)
            have bg := (hC.1.block gb (lt_of_heap GB.out) (fun e => NE.out.2 (Option.some.inj e))).trans GB.out
            obtain ⟨z0, z1, z2, z3⟩ := cell4 bg
            have lw1 := lt_of_heap bg
            unfold frLdb
            go_wp2_with fail
            exact HQ _ (.string mk) _ (by simp only [frLdb, upd1, r5, Nat.reduceEqDiff, reduceIte]) trivial rfl hC
          · have HQ := fun (a' : Act) (va : Value) (w' : World) (h1 : a' = frLdb vb sq mk q Ls.length cp lo gb lb rb u4 u5 u9 u10 u63 u64 u65 u66 u67 u68 u69 u70 u71 u72 u73 u74 u75 u76 u77 u78 u79 u80 u81 u82 u83 u84 u85 u86 (upd1 gs 94 va)) h2 (h3 : laysLdb sq mk lo gb rb 7 va w') h4 => hQ.out a' w' ⟨va, h1, h2, h3, h4⟩
            unfold frLdb
            go_wp2_with fail
            exact HQ _ (.pointer (some ⟨gb, 3, none⟩)) _ (by simp only [frLdb, upd1, Nat.reduceEqDiff, reduceIte]) trivial rfl hC
          · have HQ := fun (a' : Act) (va : Value) (w' : World) (h1 : a' = frLdb vb sq mk q Ls.length cp lo gb lb rb u4 u5 u9 u10 u63 u64 u65 u66 u67 u68 u69 u70 u71 u72 u73 u74 u75 u76 u77 u78 u79 u80 u81 u82 u83 u84 u85 u86 (upd1 gs 95 va)) h2 (h3 : laysLdb sq mk lo gb rb 8 va w') h4 => hQ.out a' w' ⟨va, h1, h2, h3, h4⟩
            have r7 : gs 94 = .pointer (some ⟨gb, 3, none⟩) := hR 7 (hdeps ⟨7, .data⟩ (by simp) rfl)
            have bg := (hC.1.block gb (lt_of_heap GB.out) (fun e => NE.out.2 (Option.some.inj e))).trans GB.out
            obtain ⟨z0, z1, z2, z3⟩ := cell4 bg
            have lw1 := lt_of_heap bg
            unfold frLdb
            go_wp2_with fail
            exact HQ _ (.int .i64 lo) _ (by simp only [frLdb, upd1, r7, Nat.reduceEqDiff, reduceIte]) trivial rfl hC
          · have HQ := fun (a' : Act) (va : Value) (w' : World) (h1 : a' = frLdb vb sq mk q Ls.length cp lo gb lb rb u4 u5 u9 u10 u63 u64 u65 u66 u67 u68 u69 u70 u71 u72 u73 u74 u75 u76 u77 u78 u79 u80 u81 u82 u83 u84 u85 u86 (upd1 gs 96 va)) h2 (h3 : laysLdb sq mk lo gb rb 9 va w') h4 => hQ.out a' w' ⟨va, h1, h2, h3, h4⟩
            have r0 : gs 87 = .pointer (some ⟨rb, 0, none⟩) := hR 0 (hdeps ⟨0, .data⟩ (by simp) rfl)
            unfold frLdb
            go_wp2_with fail
            exact HQ _ (.pointer (some ⟨rb, 0, none⟩)) _ (by simp only [frLdb, upd1, r0, Nat.reduceEqDiff, reduceIte]) trivial rfl hC
          · have HQ := fun (a' : Act) (va : Value) (w' : World) (h1 : a' = frLdb vb sq mk q Ls.length cp lo gb lb rb u4 u5 u9 u10 u63 u64 u65 u66 u67 u68 u69 u70 u71 u72 u73 u74 u75 u76 u77 u78 u79 u80 u81 u82 u83 u84 u85 u86 (upd1 gs 97 va)) h2 (h3 : laysLdb sq mk lo gb rb 10 va w') h4 => hQ.out a' w' ⟨va, h1, h2, h3, h4⟩
            have r9 : gs 96 = .pointer (some ⟨rb, 0, none⟩) := hR 9 (hdeps ⟨9, .data⟩ (by simp) rfl)
            unfold frLdb
            go_wp2_with fail
            exact HQ _ (.pointer (some ⟨rb, 1, none⟩)) _ (by simp only [frLdb, upd1, r9, Nat.reduceEqDiff, reduceIte]) trivial rfl hC
          · have HQ := fun (a' : Act) (va : Value) (w' : World) (h1 : a' = frLdb vb sq mk q Ls.length cp lo gb lb rb u4 u5 u9 u10 u63 u64 u65 u66 u67 u68 u69 u70 u71 u72 u73 u74 u75 u76 u77 u78 u79 u80 u81 u82 u83 u84 u85 u86 (upd1 gs 1011 va)) h2 (h3 : laysLdb sq mk lo gb rb 11 va w') h4 => hQ.out a' w' ⟨va, h1, h2, h3, h4⟩
            have r4 : gs 91 = .int .i64 sq := hR 4 (hdeps ⟨4, .data⟩ (by simp) rfl)
            have r10 : gs 97 = .pointer (some ⟨rb, 1, none⟩) := hR 10 (hdeps ⟨10, .data⟩ (by simp) rfl)
            have b0 := hC.2
            have ff := free_of_heap b0
            have lw1 := lt_of_heap b0
            generalize (if L 11 = true then (sq : Int) else 0) = zz at b0
            generalize (if L 14 = true then mk else noneS) = zm at b0
            generalize (if L 17 = true then (lo : Int) else 0) = zo at b0
            obtain ⟨y0, y1, y2, y3, y4⟩ := cell5 b0
            unfold frLdb
            go_wp2_with fail
            exact HQ _ undef _ (by simp only [frLdb, upd1, r4, r10, Nat.reduceEqDiff, reduceIte]) trivial trivial (stL.put1 hC)
          · have HQ := fun (a' : Act) (va : Value) (w' : World) (h1 : a' = frLdb vb sq mk q Ls.length cp lo gb lb rb u4 u5 u9 u10 u63 u64 u65 u66 u67 u68 u69 u70 u71 u72 u73 u74 u75 u76 u77 u78 u79 u80 u81 u82 u83 u84 u85 u86 (upd1 gs 98 va)) h2 (h3 : laysLdb sq mk lo gb rb 12 va w') h4 => hQ.out a' w' ⟨va, h1, h2, h3, h4⟩
            have r1 : gs 88 = .pointer (some ⟨rb, 0, none⟩) := hR 1 (hdeps ⟨1, .data⟩ (by simp) rfl)
            unfold frLdb
            go_wp2_with fail
            exact HQ _ (.pointer (some ⟨rb, 0, none⟩)) _ (by simp only [frLdb, upd1, r1, Nat.reduceEqDiff, reduceIte]) trivial rfl hC
          · have HQ := fun (a' : Act) (va : Value) (w' : World) (h1 : a' = frLdb vb sq mk q Ls.length cp lo gb lb rb u4 u5 u9 u10 u63 u64 u65 u66 u67 u68 u69 u70 u71 u72 u73 u74 u75 u76 u77 u78 u79 u80 u81 u82 u83 u84 u85 u86 (upd1 gs 99 va)) h2 (h3 : laysLdb sq mk lo gb rb 13 va w') h4 => hQ.out a' w' ⟨va, h1, h2, h3, h4⟩
            have r12 : gs 98 = .pointer (some ⟨rb, 0, none⟩) := hR 12 (hdeps ⟨12, .data⟩ (by simp) rfl)
            unfold frLdb
            go_wp2_with fail
            exact HQ _ (.pointer (some ⟨rb, 2, none⟩)) _ (by simp only [frLdb, upd1, r12, Nat.reduceEqDiff, reduceIte]) trivial rfl hC
          · have HQ := fun (a' : Act) (va : Value) (w' : World) (h1 : a' = frLdb vb sq mk q Ls.length cp lo gb lb rb u4 u5 u9 u10 u63 u64 u65 u66 u67 u68 u69 u70 u71 u72 u73 u74 u75 u76 u77 u78 u79 u80 u81 u82 u83 u84 u85 u86 (upd1 gs 1014 va)) h2 (h3 : laysLdb sq mk lo gb rb 14 va w') h4 => hQ.out a' w' ⟨va, h1, h2, h3, h4⟩
            have r6 : gs 93 = .string mk := hR 6 (hdeps ⟨6, .data⟩ (by simp) rfl)
            have r13 : gs 99 = .pointer (some ⟨rb, 2, none⟩) := hR 13 (hdeps ⟨13, .data⟩ (by simp) rfl)
            have b0 := hC.2
            have ff := free_of_heap b0
            have lw1 := lt_of_heap b0
            generalize (if L 11 = true then (sq : Int) else 0) = zz at b0
            generalize (if L 14 = true then mk else noneS) = zm at b0
            generalize (if L 17 = true then (lo : Int) else 0) = zo at b0
            obtain ⟨y0, y1, y2, y3, y4⟩ := cell5 b0
            unfold frLdb
            go_wp2_with fail
            exact HQ _ undef _ (by simp only [frLdb, upd1, r6, r13, Nat.reduceEqDiff, reduceIte]) trivial trivial (stL.put2 hC)
          · have HQ := fun (a' : Act) (va : Value) (w' : World) (h1 : a' = frLdb vb sq mk q Ls.length cp lo gb lb rb u4 u5 u9 u10 u63 u64 u65 u66 u67 u68 u69 u70 u71 u72 u73 u74 u75 u76 u77 u78 u79 u80 u81 u82 u83 u84 u85 u86 (upd1 gs 100 va)) h2 (h3 : laysLdb sq mk lo gb rb 15 va w') h4 => hQ.out a' w' ⟨va, h1, h2, h3, h4⟩
            have r2 : gs 89 = .pointer (some ⟨rb, 0, none⟩) := hR 2 (hdeps ⟨2, .data⟩ (by simp) rfl)
            unfold frLdb
            go_wp2_with fail
            exact HQ _ (.pointer (some ⟨rb, 0, none⟩)) _ (by simp only [frLdb, upd1, r2, Nat.reduceEqDiff, reduceIte]) trivial rfl hC
          · have HQ := fun (a' : Act) (va : Value) (w' : World) (h1 : a' = frLdb vb sq mk q Ls.length cp lo gb lb rb u4 u5 u9 u10 u63 u64 u65 u66 u67 u68 u69 u70 u71 u72 u73 u74 u75 u76 u77 u78 u79 u80 u81 u82 u83 u84 u85 u86 (upd1 gs 101 va)) h2 (h3 : laysLdb sq mk lo gb rb 16 va w') h4 => hQ.out a' w' ⟨va, h1, h2, h3, h4⟩
            have r15 : gs 100 = .pointer (some ⟨rb, 0, none⟩) := hR 15 (hdeps ⟨15, .data⟩ (by simp) rfl)
            unfold frLdb
            go_wp2_with fail
            exact HQ _ (.pointer (some ⟨rb, 4, none⟩)) _ (by simp only [frLdb, upd1, r15, Nat.reduceEqDiff, reduceIte]) trivial rfl hC
          · have HQ := fun (a' : Act) (va : Value) (w' : World) (h1 : a' = frLdb vb sq mk q Ls.length cp lo gb lb rb u4 u5 u9 u10 u63 u64 u65 u66 u67 u68 u69 u70 u71 u72 u73 u74 u75 u76 u77 u78 u79 u80 u81 u82 u83 u84 u85 u86 (upd1 gs 1017 va)) h2 (h3 : laysLdb sq mk lo gb rb 17 va w') h4 => hQ.out a' w' ⟨va, h1, h2, h3, h4⟩
            have r8 : gs 95 = .int .i64 lo := hR 8 (hdeps ⟨8, .data⟩ (by simp) rfl)
            have r16 : gs 101 = .pointer (some ⟨rb, 4, none⟩) := hR 16 (hdeps ⟨16, .data⟩ (by simp) rfl)
            have b0 := hC.2
            have ff := free_of_heap b0
            have lw1 := lt_of_heap b0
            generalize (if L 11 = true then (sq : Int) else 0) = zz at b0
            generalize (if L 14 = true then mk else noneS) = zm at b0
            generalize (if L 17 = true then (lo : Int) else 0) = zo at b0
            obtain ⟨y0, y1, y2, y3, y4⟩ := cell5 b0
            unfold frLdb
            go_wp2_with fail
            exact HQ _ undef _ (by simp only [frLdb, upd1, r8, r16, Nat.reduceEqDiff, reduceIte]) trivial trivial (stL.put3 hC)
        intro L13 g13 w13 hall hR hC
        have HC := hC
        rw [hall 11 (by decide), hall 14 (by decide), hall 17 (by decide)] at HC
        have BLL := Lib.hid ((HC.1.block lb (lt_of_heap LB.out) (fun e => NE.out.1 (Option.some.inj e))).trans LB.out)
        have RB9 := Lib.hid HC
        clear hC hall hR HC
        have zl : w13.cell? ⟨lb, 0, none⟩ = some (.pointer (some ⟨rb, 0, none⟩)) := by rw [cell_in, BLL.out]; rfl
        have lw := lt_of_heap BLL.out
        unfold frLdb
        go_wp2_with fail
        go_ret2

        obtain ⟨h9, hb9⟩ := RB9.out
        rw [if_pos rfl, if_pos rfl, if_pos rfl] at hb9
        refine ⟨rb, rfl, D, ⟨tm, ?_, TMM.out.rb_, TMM.out.tm_, ?_, hsq, hlo⟩, STT.out.trans (.of_grown h9 (fun j hj => by cases hj; exact TMM.out.rb_))⟩
        · refine ⟨hb9, TMM.out.tab.nil, fun c hc => (TMM.out.tab.map c hc).kept h9 (fun e => ?_)⟩
          injection e with e
          subst e
          have := TMM.out.tab
          rw [hc] at this
          exact this.ne rfl
        · exact fun i hi => Nat.lt_of_lt_of_le (TMM.out.lt i hi) h9.size
end Go.Proofs.YtnkmckdefiblhaaGreatDoor
