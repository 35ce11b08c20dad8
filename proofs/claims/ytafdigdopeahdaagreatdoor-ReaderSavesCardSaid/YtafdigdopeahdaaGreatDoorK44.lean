/- oubliettekeep.follow: a reader that reads the first records of a feed (the walk). · (*reader.Reader).Save, and reader.Load (the walks). · oubliettekeep.fed: a fact (the walk). · What is told more does not change what was told: plain. Events that are few. · oubliettekeep.ReaderSaves (the walk). · What the rows' condition says of the package-level variables, in the walks' words. · Arguments as data: slices of texts, bytes, in the walks' words. -/
import Derived.Test.YtafdigdopeahdaaGreatDoorProg
import Derived.Test.YtafdigdopeahdaaGreatDoorK43
import Derived.Test.YtafdigdopeahdaaGreatDoorG38
import Derived.Test.YtafdigdopeahdaaGreatDoorG40
import Derived.Test.YtafdigdopeahdaaGreatDoorK38
import Derived.Test.YtafdigdopeahdaaGreatDoorG28
import Derived.Test.YtafdigdopeahdaaGreatDoorG5
import Derived.Laws.EntriesVeiled
import Derived.Test.YtafdigdopeahdaaGreatDoorG35
import Derived.Test.YtafdigdopeahdaaGreatDoorG39
import Derived.Test.YtafdigdopeahdaaGreatDoorPick
import Derived.Test.YtafdigdopeahdaaGreatDoorRows
import Derived.Test.YtafdigdopeahdaaGreatDoorG11
import Derived.Lib.LaidTab
import Derived.Stop.LaidErr
import Derived.LaidMore
import Derived.MakeChecks
import Derived.Test.YtafdigdopeahdaaGreatDoorG23
import Derived.LaidHandle
import Derived.Test.YtafdigdopeahdaaGreatDoorG13
import Derived.SliceStrings
import Derived.Carry
import Derived.ProofKit
namespace Go.Proofs.YtafdigdopeahdaaGreatDoor
open Go.RowKit Go.Shelf

/-- A reader that has read k of a run's records. -/
abbrev follR (R : RunM) (k : Nat) : RdM := follN R.S.many R.S.has R.S.L R.ok RD0 k
theorem glob_in {w w' : World} {V D : Blk} (hG : Glob w V) (h : step w w' none0 D) : Glob w' (fun i => V i ∨ D i) := hG.step (h.lift (A := V) (fun _ h => h.elim))
theorem new_apart {w w' : World} {V D : Blk} (h : step w w' none0 D) (hV : ∀ i, V i → i < w.heap.size) : apart V D := fun i h1 h2 => by have := (h.new h2).1; have := hV i h1; omega
/-- The next record of a run. -/
theorem foll_next {R : RunM} (HR : Runs secS R) {k : Nat} {x : Rec} {e : Ev} (h1 : R.S.L[k]? = some x) (h2 : R.ok[k]? = some e) :
    isTold secS x e ∧ x.gen ≤ (R.S.many x.subject : Nat) ∧ x.seq = (follR R k).seq + 1 ∧ x.prev = (follR R k).mark ∧ (follR R k).seq = k ∧ readM R.S.many R.S.has (follR R k) x e = follR R (k + 1) := by
  obtain ⟨t1, t2, t3, t4, _⟩ := HR.inv.told k x e h1 h2
  have hk := (List.getElem?_eq_some_iff.1 h2).1
  obtain ⟨l1, l2, _⟩ := late HR k (by omega)
  refine ⟨t1, t4, ?_, ?_, l1, (follN_succ h1 h2).symm⟩
  · rw [l1]; exact t2
  · rw [l2]; exact t3
/-- Read, at the record of a run that comes next. -/
theorem read_foll (R : RunM) (HR : Runs secS R) (hz : R.ok.length ≤ 1000) (k : Nat) (x : Rec) (h1 : R.S.L[k]? = some x) (w0 w : World) (V D : Blk) (rb vb nv : Nat) (hv : vaultIn w0 V vb nv secS R.S.many R.S.has) (hG : Glob w0 V) (hst : step w0 w none0 D) (h : rdIn w D rb vb k (follR R k)) :
    Calls Tryz.prog 14 #[.pointer (some ⟨rb, 0, none⟩), .agg (recV x)] w fun r w' => r = .returned .nilIface ∧ ∃ D', rdIn w' D' rb vb (k + 1) (follR R (k + 1)) ∧ step w w' D D' := by
  have hk : k < R.ok.length := by rw [← HR.inv.len]; exact (List.getElem?_eq_some_iff.1 h1).1
  obtain ⟨t1, t2, t3, t4, t5, t6⟩ := foll_next HR h1 (List.getElem?_eq_getElem hk)
  have := read_next x R.ok[k] w V D rb vb k nv secS R.S.many R.S.has (follR R k) h (hv.ext hst.ext) (glob_in hG hst) (new_apart hst hv.lt) t1 t2 t3 t4 (by omega) (by rw [t5]; omega)
  rw [t6] at this
  exact this
set_option maxRecDepth 100000 in
set_option maxHeartbeats 4000000 in
theorem follow_any (R : RunM) (HR : Runs secS R) (hz : R.ok.length ≤ 1000) (k : Nat) (hk : k ≤ R.ok.length) (q : Option Addr) (cp : Nat) (w : World) (V : Blk) (vb n : Nat) (hv : vaultIn w V vb n secS R.S.many R.S.has) (hG : Glob w V) (hr : recsAt w q (R.S.L.take k)) :
    Calls Tryz.prog 25 #[.pointer (some ⟨vb, 0, none⟩), .slice q k cp] w fun r w' => ∃ rb D, r = .returned (.tuple #[.pointer (some ⟨rb, 0, none⟩), .bool true]) ∧ rdIn w' D rb vb k (follR R k) ∧ step w w' none0 D := by
  have HV := Lib.hid hv
  have GG := Lib.hid hG
  have RR := Lib.hid hr
  have HRU := Lib.hid HR
  have hk1 : k ≤ 1000 := by omega
  have HK := Lib.hid hk
  clear hv hG hr HR hk
  go_enter Tryz.func25, Tryz.ntmps25
  go_wp2_with fail
  refine (rnew_any vb w).mono ?_
  rintro _ w1 ⟨rb, D, rfl, hr1, hst1, _⟩
  have ST := Lib.hid hst1
  have RI := Lib.hid hr1
  clear hr1 hst1
  go_wp2_with fail
  go_loopw [8] (fun iv wr => ∃ (j : Nat) (D : Blk), j ≤ k ∧ iv = .int .i64 j ∧ Hid (rdIn wr D rb vb j (follR R j)) ∧ Hid (step w wr none0 D)) (fun iv _ => k - (intOf iv).toNat)
  case atStart => exact ⟨0, D, Nat.zero_le _, rfl, RI, ST⟩
  case round =>
    clear RI ST
    obtain ⟨j, D, hj, rfl, RI, ST⟩ := hrel
    by_cases hlt : j < k
    · have hL : j < R.S.L.length := by rw [HRU.out.inv.len]; have := HK.out; omega
      have hx := List.getElem?_eq_getElem hL
      have hx' : (R.S.L.take k)[j]? = some R.S.L[j] := by rw [List.getElem?_take_of_lt hlt]; exact hx
      have RD := read_foll R HRU.out hz j _ hx w wr V D rb vb n HV.out GG.out ST.out RI.out
      have hb := ext_iff.1 ST.out.ext
      obtain ⟨g, o, rfl, e0, e1, e2, e3, e4, hg⟩ := recsAt_row (recsAt_of RR.out (fun k hk => hb.block k hk) hb.size) hx'
      generalize R.S.L[j] = x at RD hx hx' e0 e1 e2 e3 e4
      clear hx hx' hb
      have hlt' : (j : Int) < k := by omega
      obtain ⟨q0, u0, g0, p0, b0⟩ := x
      unfold recV at RD
      dsimp only at RD e0 e1 e2 e3 e4
      go_wp2_with fail
      refine RD.mono ?_
      rintro _ w7 ⟨rfl, D', hr7, hst7⟩
      have R7 := Lib.hid hr7
      have S7 := Lib.hid (ST.out.trans hst7)
      clear hr7 hst7 RD RI ST e0 e1 e2 e3 e4
      go_wp2_with fail
      go_roundw
      case rel => exact ⟨j + 1, D', hlt, by go_num, R7, S7⟩
      case measure => simp [intOf]; omega
    · obtain rfl : j = k := by omega
      go_wp2_with fail
      go_ret2
      exact ⟨rb, D, rfl, RI.out, ST.out⟩
end Go.Proofs.YtafdigdopeahdaaGreatDoor
namespace Go.Proofs.YtafdigdopeahdaaGreatDoor
open Go.RowKit Go.Shelf

theorem ownsCl_lo {w : World} {base b : Nat} {v : Value} {l : List Cell} (h : ownsCl w base v l) (hb : b ≤ base) : ownsCl w b v l := by
  obtain ⟨h1, h2 | ⟨g, cap, cur, hv, hb', h3⟩⟩ := h
  · exact ⟨h1, .inl h2⟩
  · exact ⟨h1, .inr ⟨g, cap, cur, hv, Nat.le_trans hb hb', h3⟩⟩
theorem cell4 {w : World} {b : Nat} {v0 v1 v2 v3 : Value} {t : TypeId} {f : Nat × Nat} (h : w.heap[b]? = some (.cells #[v0, v1, v2, v3] t f)) : w.cell? ⟨b, 0, none⟩ = some v0 ∧ w.cell? ⟨b, 1, none⟩ = some v1 ∧ w.cell? ⟨b, 2, none⟩ = some v2 ∧ w.cell? ⟨b, 3, none⟩ = some v3 := by
  refine ⟨?_, ?_, ?_, ?_⟩ <;> (rw [cell_in, h]; rfl)
/-- A struct result lies in a block. -/
theorem ret_cell1 {P : Program} {fn : Func} {R : Ending → World → Prop} {a : Act} {w : World} {p : Tmp} {ty : TypeId} {b : Nat} {V : Array Value} {t : TypeId} {fr : Nat × Nat} {d : TypeDesc} (h : fn.results = #[.cell p ty]) (hp : a.tmps.getD p undef = .pointer (some ⟨b, 0, none⟩))
    (hb : w.heap[b]? = some (.cells V t fr)) (hu : P.underlying ty = some d) (hd : (match d with | .struct _ | .array _ _ => true | _ => false) = true) (hi : (P.info? ty).map (·.size) = some V.size) (hdf : a.defers = [])
    (hR : R (.returned (.agg V)) w) : bodyPost P fn R .ret a w := by
  refine bodyPost_ret (v := .agg V) ?_ hdf hR
  exact results_cell_row h a.tmps w b t V fr d hp hb hu hd hi
/-- What Save writes, and when. -/
def svC (w0 : World) (zb : Nat) (sq lo : Nat) (mk : ByteArray) (T : List Cell) (done : Bool) (w : World) : Prop :=
  w0.grownBy w (some zb) ∧ (done = false → w.heap[zb]? = some (.cells #[.int .i64 0, .string ⟨#[]⟩, .slice none 0 0, .int .i64 0] 70 (0, 0))) ∧
  (done = true → ∃ v, w.heap[zb]? = some (.cells #[.int .i64 sq, .string mk, v, .int .i64 lo] 70 (0, 0)) ∧ ownsCl w (zb + 1) v T)
section
variable {w0 w w' : World} {zb sq lo : Nat} {mk : ByteArray} {T : List Cell} {done : Bool}
theorem ownsCl_off {v : Value} (h : ownsCl w (zb + 1) v T) (g : w.grownBy w' (some zb)) : ownsCl w' (zb + 1) v T :=
  h.kept g (fun b hb e => by have := (h.base hb).1; injection e with e; omega)
theorem svC.ext (h : svC w0 zb sq lo mk T done w) (hx : ∃ x, w' = Go.Proofs.YtafdigdopeahdaaGreatDoor.ext w x) (hz : zb < w.heap.size) : svC w0 zb sq lo mk T done w' := by
  have hb := ext_iff.1 hx
  refine ⟨h.1.trans (grown_below hb _), fun hd => (hb.block _ hz).trans (h.2.1 hd), fun hd => ?_⟩
  obtain ⟨v, h1, h2⟩ := h.2.2 hd
  exact ⟨v, (hb.block _ hz).trans h1, h2.kept (grown_below hb none) (by simp)⟩
theorem svC.lt (h : svC w0 zb sq lo mk T done w) : zb < w.heap.size := by
  cases done with
  | false => exact lt_of_heap (h.2.1 rfl)
  | true => obtain ⟨v, h1, _⟩ := h.2.2 rfl; exact lt_of_heap h1
theorem setV4 {b : Nat} {v0 v1 v2 v3 : Value} {t : TypeId} (h : w.heap[b]? = some (.cells #[v0, v1, v2, v3] t (0, 0))) (x0 x1 x2 x3 : Value) :
    ((((w.setCell ⟨b, 0, none⟩ x0).setCell ⟨b, 1, none⟩ x1).setCell ⟨b, 2, none⟩ x2).setCell ⟨b, 3, none⟩ x3).heap[b]? = some (.cells #[x0, x1, x2, x3] t (0, 0)) ∧
    w.grownBy ((((w.setCell ⟨b, 0, none⟩ x0).setCell ⟨b, 1, none⟩ x1).setCell ⟨b, 2, none⟩ x2).setCell ⟨b, 3, none⟩ x3) (some b) :=
  ⟨heap_setCell (heap_setCell (heap_setCell (heap_setCell h _) _) _) _, (((grown_setCell _ _ _ _).trans (grown_setCell _ _ _ _)).trans (grown_setCell _ _ _ _)).trans (grown_setCell _ _ _ _)⟩
theorem svC.put {v : Value} (h : svC w0 zb sq lo mk T done w) (hb : w'.heap[zb]? = some (.cells #[.int .i64 sq, .string mk, v, .int .i64 lo] 70 (0, 0))) (hg : w.grownBy w' (some zb)) (ho : ownsCl w (zb + 1) v T) : svC w0 zb sq lo mk T true w' :=
  ⟨h.1.trans hg, (fun e => by cases e), fun _ => ⟨v, hb, ownsCl_off ho hg⟩⟩
end
def SavePost (w : World) (R : RdM) (r : Ending) (w' : World) : Prop := ∃ v, r = .returned (.agg #[.int .i64 R.seq, .string R.mark, v, .int .i64 R.lost]) ∧ ownsCl w' w.heap.size v (sortC R.T) ∧ Below w.heap.size w w'
def frSv (rb : Nat) (zb : Nat) (g : Nat → Value) : Act := { tmps := #[.pointer (some ⟨rb, 0, none⟩), undef, .pointer (some ⟨zb, 0, none⟩), g 3, g 4, g 5, g 6, g 7, g 8, g 9, g 10, g 11, g 12, g 13, g 14, g 15, g 16, g 17, g 18, g 19], defers := [] }
def dstSv (i : Nat) : Nat := ([3, 4, 5, 6, 7, 8, 9, 10, 11, 12, 13, 14, 15, 16, 17, 18, 19, 1017] : List Nat).getD i (2000 + i)
def laysSv (rb : Nat) (zb : Nat) (sq : Nat) (lo : Nat) (mk : ByteArray) (Ls : List Cell) (j : Nat) (v : Value) (w : World) : Prop :=
  match j with
  | 0 => v = .pointer (some ⟨rb, 0, none⟩)
  | 1 => v = .pointer (some ⟨rb, 0, none⟩)
  | 2 => v = .pointer (some ⟨rb, 1, none⟩)
  | 3 => v = .int .i64 sq
  | 4 => v = .pointer (some ⟨rb, 0, none⟩)
  | 5 => v = .pointer (some ⟨rb, 0, none⟩)
  | 6 => v = .pointer (some ⟨rb, 2, none⟩)
  | 7 => v = .string mk
  | 8 => v = .pointer (some ⟨rb, 0, none⟩)
  | 9 => v = .pointer (some ⟨rb, 0, none⟩)
  | 10 => v = .pointer (some ⟨rb, 3, none⟩)
  | 11 => ownsCl w (zb + 1) v Ls
  | 12 => v = .pointer (some ⟨rb, 0, none⟩)
  | 13 => v = .pointer (some ⟨rb, 0, none⟩)
  | 14 => v = .pointer (some ⟨rb, 4, none⟩)
  | 15 => v = .int .i64 lo
  | 16 => ∃ v', v = .agg #[.int .i64 sq, .string mk, v', .int .i64 lo] ∧ ownsCl w (zb + 1) v' Ls
  | _ => True
set_option maxRecDepth 100000 in
set_option maxHeartbeats 2000000 in
theorem rsave_any (w : World) (D : Blk) (rb vb n : Nat) (R : RdM) (h : rdIn w D rb vb n R) (hn : n ≤ 1048576) :
    Calls Tryz.prog 32 #[.pointer (some ⟨rb, 0, none⟩)] w (SavePost w R) := by
  obtain ⟨tm, h⟩ := h
  have hbb := h.tab.blk
  have HT := Lib.hid h.tab
  have HP : Hid (∀ r w', (∃ v, r = .returned (.agg #[.int .i64 R.seq, .string R.mark, v, .int .i64 R.lost]) ∧ ownsCl w' w.heap.size v (sortC R.T) ∧ Below w.heap.size w w') → SavePost w R r w') := Lib.hid fun _ _ h => h
  have hlt := lt_of_heap hbb
  clear h hbb
  go_enter Tryz.func32, Tryz.ntmps32
  go_wp2_with fail
  have ZB := Lib.hid (heap_alloc_at w (.cells #[.int .i64 0, .string ⟨#[]⟩, .slice none 0 0, .int .i64 0] 70))
  have XB := Lib.hid (ext_alloc (.cells #[.int .i64 0, .string ⟨#[]⟩, .slice none 0 0, .int .i64 0] 70) (ext_refl w))
  have HT1 := Lib.hid (HT.out.ext XB.out)
  have RZ := Lib.hid (show some rb ≠ some w.heap.size ∧ ∀ b, tm = some b → some b ≠ some w.heap.size from ⟨by intro e; injection e with e; omega, fun b hb e => by
    injection e with e
    have h1 := HT.out.map b hb
    obtain ⟨es, ck, hbk⟩ := h1.block
    have := lt_of_heap hbk
    omega⟩)
  generalize w.alloc (.cells #[.int .i64 0, .string ⟨#[]⟩, .slice none 0 0, .int .i64 0] 70) = wa at ZB XB HT1 ⊢
  have HZ := Lib.hid (show w.heap.size = w.heap.size from rfl)
  generalize hzb : w.heap.size = zb at ZB RZ ⊢
  have HZB := Lib.hid hzb
  clear hzb HZ HT
  refine wp_region_slots (frSv rb zb) dstSv (fun _ => undef) (laysSv rb zb R.seq R.lost R.mark (sortC R.T)) (fun L g w => svC wa zb R.seq R.lost R.mark (sortC R.T) (L 17) w) (fun w w' => w.grownBy w' (some zb)) (by kernel_rfl) (by kernel_rfl) rfl ?_ (by kernel_rfl) ⟨grown_drawn _ _ _, fun _ => ZB.out, (fun e => by cases e)⟩ ?_ ?_
  · exact fun j v w w' h hr => by unfold laysSv at hr ⊢; split at hr <;> first | exact hr | exact ownsCl_off hr h | (obtain ⟨v', h1, h2⟩ := hr; exact ⟨v', h1, ownsCl_off h2 h⟩)
  · refine ⟨?_, ?_, ?_, ?_, ?_, ?_, ?_, ?_, ?_, ?_, ?_, ?_, ?_, ?_, ?_, ?_, ?_, ?_, trivial⟩
    all_goals (intro L gs w1 hLi hdeps hR hC; refine ends_of fun Q hQ => ?_)
    · have HQ := fun (a' : Act) (va : Value) (w' : World) (h1 : a' = frSv rb zb (upd1 gs 3 va)) h2 (h3 : laysSv rb zb R.seq R.lost R.mark (sortC R.T) 0 va w') h4 => hQ.out a' w' ⟨va, h1, h2, h3, h4⟩
      unfold frSv
      go_wp2_with fail
      exact HQ _ (.pointer (some ⟨rb, 0, none⟩)) _ (by simp only [frSv, upd1, Nat.reduceEqDiff, reduceIte]) (grown_refl _ _) rfl hC
    · have HQ := fun (a' : Act) (va : Value) (w' : World) (h1 : a' = frSv rb zb (upd1 gs 4 va)) h2 (h3 : laysSv rb zb R.seq R.lost R.mark (sortC R.T) 1 va w') h4 => hQ.out a' w' ⟨va, h1, h2, h3, h4⟩
      have r0 : gs 3 = .pointer (some ⟨rb, 0, none⟩) := hR 0 (hdeps ⟨0, .data⟩ (by simp) rfl)
      unfold frSv
      go_wp2_with fail
      exact HQ _ (.pointer (some ⟨rb, 0, none⟩)) _ (by simp only [frSv, upd1, r0, Nat.reduceEqDiff, reduceIte]) (grown_refl _ _) rfl hC
    · have HQ := fun (a' : Act) (va : Value) (w' : World) (h1 : a' = frSv rb zb (upd1 gs 5 va)) h2 (h3 : laysSv rb zb R.seq R.lost R.mark (sortC R.T) 2 va w') h4 => hQ.out a' w' ⟨va, h1, h2, h3, h4⟩
      have r1 : gs 4 = .pointer (some ⟨rb, 0, none⟩) := hR 1 (hdeps ⟨1, .data⟩ (by simp) rfl)
      unfold frSv
      go_wp2_with fail
      exact HQ _ (.pointer (some ⟨rb, 1, none⟩)) _ (by simp only [frSv, upd1, r1, Nat.reduceEqDiff, reduceIte]) (grown_refl _ _) rfl hC
    · have HQ := fun (a' : Act) (va : Value) (w' : World) (h1 : a' = frSv rb zb (upd1 gs 6 va)) h2 (h3 : laysSv rb zb R.seq R.lost R.mark (sortC R.T) 3 va w') h4 => hQ.out a' w' ⟨va, h1, h2, h3, h4⟩
      have r2 : gs 5 = .pointer (some ⟨rb, 1, none⟩) := hR 2 (hdeps ⟨2, .data⟩ (by simp) rfl)
      have hc := HT1.out.kept hC.1 RZ.out.1 RZ.out.2
      obtain ⟨z0, z1, z2, z4, lw1⟩ := rd_cells hc
      unfold frSv
      go_wp2_with fail
      exact HQ _ (.int .i64 R.seq) _ (by simp only [frSv, upd1, r2, Nat.reduceEqDiff, reduceIte]) (grown_refl _ _) rfl hC
    · have HQ := fun (a' : Act) (va : Value) (w' : World) (h1 : a' = frSv rb zb (upd1 gs 7 va)) h2 (h3 : laysSv rb zb R.seq R.lost R.mark (sortC R.T) 4 va w') h4 => hQ.out a' w' ⟨va, h1, h2, h3, h4⟩
      unfold frSv
      go_wp2_with fail
      exact HQ _ (.pointer (some ⟨rb, 0, none⟩)) _ (by simp only [frSv, upd1, Nat.reduceEqDiff, reduceIte]) (grown_refl _ _) rfl hC
    · have HQ := fun (a' : Act) (va : Value) (w' : World) (h1 : a' = frSv rb zb (upd1 gs 8 va)) h2 (h3 : laysSv rb zb R.seq R.lost R.mark (sortC R.T) 5 va w') h4 => hQ.out a' w' ⟨va, h1, h2, h3, h4⟩
      have r4 : gs 7 = .pointer (some ⟨rb, 0, none⟩) := hR 4 (hdeps ⟨4, .data⟩ (by simp) rfl)
      unfold frSv
      go_wp2_with fail
      exact HQ _ (.pointer (some ⟨rb, 0, none⟩)) _ (by simp only [frSv, upd1, r4, Nat.reduceEqDiff, reduceIte]) (grown_refl _ _) rfl hC
    · have HQ := fun (a' : Act) (va : Value) (w' : World) (h1 : a' = frSv rb zb (upd1 gs 9 va)) h2 (h3 : laysSv rb zb R.seq R.lost R.mark (sortC R.T) 6 va w') h4 => hQ.out a' w' ⟨va, h1, h2, h3, h4⟩
      have r5 : gs 8 = .pointer (some ⟨rb, 0, none⟩) := hR 5 (hdeps ⟨5, .data⟩ (by simp) rfl)
      unfold frSv
      go_wp2_with fail
      exact HQ _ (.pointer (some ⟨rb, 2, none⟩)) _ (by simp only [frSv, upd1, r5, Nat.reduceEqDiff, reduceIte]) (grown_refl _ _) rfl hC
    · have HQ := fun (a' : Act) (va : Value) (w' : World) (h1 : a' = frSv rb zb (upd1 gs 10 va)) h2 (h3 : laysSv rb zb R.seq R.lost R.mark (sortC R.T) 7 va w') h4 => hQ.out a' w' ⟨va, h1, h2, h3, h4⟩
      have r6 : gs 9 = .pointer (some ⟨rb, 2, none⟩) := hR 6 (hdeps ⟨6, .data⟩ (by simp) rfl)
      have hc := HT1.out.kept hC.1 RZ.out.1 RZ.out.2
      obtain ⟨z0, z1, z2, z4, lw1⟩ := rd_cells hc
      unfold frSv
      go_wp2_with fail
      exact HQ _ (.string R.mark) _ (by simp only [frSv, upd1, r6, Nat.reduceEqDiff, reduceIte]) (grown_refl _ _) rfl hC
    · have HQ := fun (a' : Act) (va : Value) (w' : World) (h1 : a' = frSv rb zb (upd1 gs 11 va)) h2 (h3 : laysSv rb zb R.seq R.lost R.mark (sortC R.T) 8 va w') h4 => hQ.out a' w' ⟨va, h1, h2, h3, h4⟩
      unfold frSv
      go_wp2_with fail
      exact HQ _ (.pointer (some ⟨rb, 0, none⟩)) _ (by simp only [frSv, upd1, Nat.reduceEqDiff, reduceIte]) (grown_refl _ _) rfl hC
    · have HQ := fun (a' : Act) (va : Value) (w' : World) (h1 : a' = frSv rb zb (upd1 gs 12 va)) h2 (h3 : laysSv rb zb R.seq R.lost R.mark (sortC R.T) 9 va w') h4 => hQ.out a' w' ⟨va, h1, h2, h3, h4⟩
      have r8 : gs 11 = .pointer (some ⟨rb, 0, none⟩) := hR 8 (hdeps ⟨8, .data⟩ (by simp) rfl)
      unfold frSv
      go_wp2_with fail
      exact HQ _ (.pointer (some ⟨rb, 0, none⟩)) _ (by simp only [frSv, upd1, r8, Nat.reduceEqDiff, reduceIte]) (grown_refl _ _) rfl hC
    · have HQ := fun (a' : Act) (va : Value) (w' : World) (h1 : a' = frSv rb zb (upd1 gs 13 va)) h2 (h3 : laysSv rb zb R.seq R.lost R.mark (sortC R.T) 10 va w') h4 => hQ.out a' w' ⟨va, h1, h2, h3, h4⟩
      have r9 : gs 12 = .pointer (some ⟨rb, 0, none⟩) := hR 9 (hdeps ⟨9, .data⟩ (by simp) rfl)
      unfold frSv
      go_wp2_with fail
      exact HQ _ (.pointer (some ⟨rb, 3, none⟩)) _ (by simp only [frSv, upd1, r9, Nat.reduceEqDiff, reduceIte]) (grown_refl _ _) rfl hC
    · have HQ := fun (a' : Act) (va : Value) (w' : World) (h1 : a' = frSv rb zb (upd1 gs 14 va)) h2 (h3 : laysSv rb zb R.seq R.lost R.mark (sortC R.T) 11 va w') h4 => hQ.out a' w' ⟨va, h1, h2, h3, h4⟩
      have r10 : gs 13 = .pointer (some ⟨rb, 3, none⟩) := hR 10 (hdeps ⟨10, .data⟩ (by simp) rfl)
      have hc := HT1.out.kept hC.1 RZ.out.1 RZ.out.2
      unfold frSv
      go_wp2_with fail
      refine (cells_any w1 rb 3 (HR vb R.seq R.mark R.lost) rfl tm n R.T hc hn).mono ?_
      rintro _ w5 ⟨v5, rfl, ho5, _, hb5⟩
      go_wp2_with fail
      exact HQ _ (v5) _ (by simp only [frSv, upd1, r10, Nat.reduceEqDiff, reduceIte]) (grown_below hb5 _) (ownsCl_lo ho5 hC.lt) (hC.ext (ext_of hb5) hC.lt)
    · have HQ := fun (a' : Act) (va : Value) (w' : World) (h1 : a' = frSv rb zb (upd1 gs 15 va)) h2 (h3 : laysSv rb zb R.seq R.lost R.mark (sortC R.T) 12 va w') h4 => hQ.out a' w' ⟨va, h1, h2, h3, h4⟩
      unfold frSv
      go_wp2_with fail
      exact HQ _ (.pointer (some ⟨rb, 0, none⟩)) _ (by simp only [frSv, upd1, Nat.reduceEqDiff, reduceIte]) (grown_refl _ _) rfl hC
    · have HQ := fun (a' : Act) (va : Value) (w' : World) (h1 : a' = frSv rb zb (upd1 gs 16 va)) h2 (h3 : laysSv rb zb R.seq R.lost R.mark (sortC R.T) 13 va w') h4 => hQ.out a' w' ⟨va, h1, h2, h3, h4⟩
      have r12 : gs 15 = .pointer (some ⟨rb, 0, none⟩) := hR 12 (hdeps ⟨12, .data⟩ (by simp) rfl)
      unfold frSv
      go_wp2_with fail
      exact HQ _ (.pointer (some ⟨rb, 0, none⟩)) _ (by simp only [frSv, upd1, r12, Nat.reduceEqDiff, reduceIte]) (grown_refl _ _) rfl hC
    · have HQ := fun (a' : Act) (va : Value) (w' : World) (h1 : a' = frSv rb zb (upd1 gs 17 va)) h2 (h3 : laysSv rb zb R.seq R.lost R.mark (sortC R.T) 14 va w') h4 => hQ.out a' w' ⟨va, h1, h2, h3, h4⟩
      have r13 : gs 16 = .pointer (some ⟨rb, 0, none⟩) := hR 13 (hdeps ⟨13, .data⟩ (by simp) rfl)
      unfold frSv
      go_wp2_with fail
      exact HQ _ (.pointer (some ⟨rb, 4, none⟩)) _ (by simp only [frSv, upd1, r13, Nat.reduceEqDiff, reduceIte]) (grown_refl _ _) rfl hC
    · have HQ := fun (a' : Act) (va : Value) (w' : World) (h1 : a' = frSv rb zb (upd1 gs 18 va)) h2 (h3 : laysSv rb zb R.seq R.lost R.mark (sortC R.T) 15 va w') h4 => hQ.out a' w' ⟨va, h1, h2, h3, h4⟩
      have r14 : gs 17 = .pointer (some ⟨rb, 4, none⟩) := hR 14 (hdeps ⟨14, .data⟩ (by simp) rfl)
      have hc := HT1.out.kept hC.1 RZ.out.1 RZ.out.2
      obtain ⟨z0, z1, z2, z4, lw1⟩ := rd_cells hc
      unfold frSv
      go_wp2_with fail
      exact HQ _ (.int .i64 R.lost) _ (by simp only [frSv, upd1, r14, Nat.reduceEqDiff, reduceIte]) (grown_refl _ _) rfl hC
    · have HQ := fun (a' : Act) (va : Value) (w' : World) (h1 : a' = frSv rb zb (upd1 gs 19 va)) h2 (h3 : laysSv rb zb R.seq R.lost R.mark (sortC R.T) 16 va w') h4 => hQ.out a' w' ⟨va, h1, h2, h3, h4⟩
      have r3 : gs 6 = .int .i64 R.seq := hR 3 (hdeps ⟨3, .data⟩ (by simp) rfl)
      have r7 : gs 10 = .string R.mark := hR 7 (hdeps ⟨7, .data⟩ (by simp) rfl)
      have r11 := hR 11 (hdeps ⟨11, .data⟩ (by simp) rfl)
      have r15 : gs 18 = .int .i64 R.lost := hR 15 (hdeps ⟨15, .data⟩ (by simp) rfl)
      have r11 : ownsCl w1 (zb + 1) (gs 14) (sortC R.T) := r11
      obtain ⟨q14, c14, h14⟩ := rows_shape r11
      unfold frSv
      go_wp2_with fail
      exact HQ _ (.agg #[.int .i64 R.seq, .string R.mark, .slice q14 (sortC R.T).length c14, .int .i64 R.lost]) _ (by simp only [frSv, upd1, r3, r7, r15, h14, Nat.reduceEqDiff, reduceIte]) (grown_refl _ _) ⟨_, rfl, by rw [← h14]; exact r11⟩ hC
    · have HQ := fun (a' : Act) (va : Value) (w' : World) (h1 : a' = frSv rb zb (upd1 gs 1017 va)) h2 (h3 : laysSv rb zb R.seq R.lost R.mark (sortC R.T) 17 va w') h4 => hQ.out a' w' ⟨va, h1, h2, h3, h4⟩
      have r16 := hR 16 (hdeps ⟨16, .data⟩ (by simp) rfl)
      obtain ⟨v', hv, ho⟩ := r16
      change gs 19 = _ at hv
      obtain ⟨q', c', rfl⟩ := rows_shape ho
      have hz := hC.2.1 hLi
      have lw1 := lt_of_heap hz
      have ff := free_of_heap hz
      have HH := Lib.hid (setV4 hz (.int .i64 R.seq) (.string R.mark) (.slice q' (sortC R.T).length c') (.int .i64 R.lost))
      obtain ⟨z0, z1, z2, z3⟩ := cell4 hz
      clear hz
      unfold frSv
      go_wp2_with fail
      exact HQ _ undef _ (by simp only [frSv, upd1, hv, Nat.reduceEqDiff, reduceIte]) HH.out.2 trivial (hC.put HH.out.1 HH.out.2 ho)
  intro L1 g1 w2 hall hR hC
  obtain ⟨v, hb, ho⟩ := hC.2.2 (hall 17 (by decide))
  have GG := hC.1
  have HV := Lib.hid hb
  have HO := Lib.hid ho
  have BL := Lib.hid (show Below w.heap.size w w2 from (ext_iff.1 XB.out).trans ⟨GG.os, GG.tape, GG.output, GG.size, fun i hi => GG.block i (by have := (ext_iff.1 XB.out).size; omega) (fun e => by injection e with e; have := HZB.out; omega)⟩)
  clear hC hall hR hb ho GG
  unfold frSv
  go_wp2_with fail
  exact ret_cell1 rfl rfl HV.out Tryz.underlying70 rfl (by kernel_rfl) rfl (HP.out _ _ ⟨v, rfl, ownsCl_lo HO.out (by have := HZB.out; omega), BL.out⟩)
/-! ### Load -/
abbrev RDT (T : List Cell) : RdM := ⟨0, noneS, T, 0⟩
def putE (c : Cell) : Ev := ⟨1, c.subject, c.table, c.row, c.value⟩
theorem cell_putE (c : Cell) : cellE (putE c) = c := rfl
set_option maxRecDepth 100000 in
set_option maxHeartbeats 2000000 in
/-- Load's closure: a row is put. -/
theorem put1_any (c : Cell) (w : World) (D : Blk) (lb rb vb n : Nat) (T : List Cell) (h : rdIn w D rb vb n (RDT T)) (hlb : w.heap[lb]? = some (.cells #[.pointer (some ⟨rb, 0, none⟩)] 30 (0, 0))) (hr : rightE okV (putE c) = true) (hn : n ≤ 1048576) :
    Calls Tryz.prog 49 #[.agg (cellA c), .pointer (some ⟨lb, 0, none⟩)] w fun r w' => r = .returned (.bool true) ∧ ∃ D', rdIn w' D' rb vb (n + 1) (RDT (putT c T)) ∧ step w w' D D' := by
  obtain ⟨tm, h⟩ := h
  have hsm := right_small hr
  have HA := Lib.hid (show applyT okV (putE c) T = putT c T from by unfold applyT; rw [if_pos hr, stepT_put rfl]; rfl)
  obtain ⟨c1, c2, c3, c4⟩ := c
  unfold putE at hsm hr HA
  dsimp only at hsm hr HA
  have X1 := ext_alloc (.cells #[.string c1, .string c2, .string c3, .string c4] 45) (ext_refl w)
  have HD := Lib.hid h
  have HE := Lib.hid (heap_alloc_at w (.cells #[.string c1, .string c2, .string c3, .string c4] 45))
  have HL := Lib.hid (((ext_iff.1 X1).block _ (lt_of_heap hlb)).trans hlb)
  have HT := Lib.hid (h.tab.ext X1)
  have XX := Lib.hid X1
  have HS := Lib.hid hsm
  have HRT := Lib.hid hr
  clear h hlb X1 hsm hr
  unfold cellA
  dsimp only
  go_enter Tryz.func49, Tryz.ntmps49
  go_wp2_with fail
  generalize w.alloc (.cells #[.string c1, .string c2, .string c3, .string c4] 45) = w1 at HE HL HT XX ⊢
  generalize w.heap.size = eb at HE ⊢
  obtain ⟨d0, d1, d2, d3⟩ := cell_cells (c := ⟨c1, c2, c3, c4⟩) HE.out
  dsimp only at d0 d1 d2 d3
  have le := lt_of_heap HE.out
  have ll := lt_of_heap HL.out
  have zl : w1.cell? ⟨lb, 0, none⟩ = some (.pointer (some ⟨rb, 0, none⟩)) := by rw [cell_in, HL.out]; rfl
  have lr := lt_of_heap HT.out.blk
  refine wp_region_tail 12 (by kernel_rfl) (by kernel_rfl) ?_
  simp only [List.take_succ_cons, List.take_zero, List.drop_succ_cons, List.drop_zero]
  repeat (go_big_quiet_step (fail))
  refine wpQuiet_nil ?_
  rintro _ ⟨x, rfl⟩
  have hx : ∃ x', ext w1 x = ext w1 x' := ⟨x, rfl⟩
  have X2 := Lib.hid (ext_trans XX.out hx)
  have T2 := Lib.hid (HT.out.ext hx)
  generalize ext w1 x = w2 at X2 T2 ⊢
  clear hx d0 d1 d2 d3 le ll zl lr HE HL HT XX
  have AP := apply_any ⟨1, c3, c1, c2, c4⟩ w2 rb 3 (HR vb 0 noneS 0) rfl tm n T T2.out hn HS.out
  unfold evV at AP
  rw [HRT.out, if_pos rfl, HA.out] at AP
  dsimp only at AP
  go_wp2_with fail
  refine AP.mono ?_
  rintro _ w8 ⟨rfl, tm8, t1, t2, t3, kp⟩
  have B8 := Lib.hid t1
  have ST := Lib.hid ((step.of_ext D X2.out).trans (step.of_kept2 (D := D) kp HD.out.rb_ HD.out.tm_ t1 t2 t3))
  clear AP t1 t2 t3 kp T2
  go_wp2_with fail
  go_ret
  refine ⟨rfl, fun i => D i ∨ tm8 = some i, ⟨tm8, ⟨B8.out, .inl HD.out.rb_, (fun c hc => .inr hc), ?_, Nat.zero_le _, Nat.le_refl _⟩⟩, ST.out⟩
  rintro i (hi | hi)
  · exact Nat.lt_of_lt_of_le (HD.out.lt i hi) ST.out.size
  · exact (B8.out.map i hi).lt
/-- What stands as rows are put. -/
structure ldIn (w0 w : World) (D : Blk) (gb lb rb vb n : Nat) (sv : Array Value) (T : List Cell) : Prop where
  rdr : rdIn w D rb vb n (RDT T)
  st : step w0 w none0 D
  gb_ : w.heap[gb]? = some (.cells sv 70 (0, 0))
  lb_ : w.heap[lb]? = some (.cells #[.pointer (some ⟨rb, 0, none⟩)] 30 (0, 0))
  off : ¬ D gb ∧ ¬ D lb
theorem ldIn.ext {w0 w w' : World} {D : Blk} {gb lb rb vb n : Nat} {sv : Array Value} {T : List Cell} (h : ldIn w0 w D gb lb rb vb n sv T) (hx : ∃ x, w' = Go.Proofs.YtafdigdopeahdaaGreatDoor.ext w x) : ldIn w0 w' D gb lb rb vb n sv T :=
  have hb := ext_iff.1 hx
  ⟨h.rdr.ext hx, h.st.trans (.of_ext _ hx), (hb.block _ (lt_of_heap h.gb_)).trans h.gb_, (hb.block _ (lt_of_heap h.lb_)).trans h.lb_, h.off⟩
theorem ldIn.put {w0 w w' : World} {D D' : Blk} {gb lb rb vb n n' : Nat} {sv : Array Value} {T T' : List Cell} (h : ldIn w0 w D gb lb rb vb n sv T) (hr : rdIn w' D' rb vb n' (RDT T')) (g : step w w' D D') : ldIn w0 w' D' gb lb rb vb n' sv T' := by
  obtain ⟨a1, _, a3⟩ := g.keep (lt_of_heap h.gb_) h.off.1
  obtain ⟨b1, _, b3⟩ := g.keep (lt_of_heap h.lb_) h.off.2
  exact ⟨hr, h.st.trans g, a1.trans h.gb_, b1.trans h.lb_, a3, b3⟩
/-- What Load writes at its end. -/
def stL (w0 : World) (rb vb sq lo : Nat) (mk : ByteArray) (tm : Option Nat) (b1 b2 b3 : Bool) (w : World) : Prop :=
  w0.grownBy w (some rb) ∧ w.heap[rb]? = some (.cells #[.pointer (some ⟨vb, 0, none⟩), .int .i64 (if b1 = true then (sq : Int) else 0), .string (if b2 = true then mk else noneS), .map tm, .int .i64 (if b3 = true then (lo : Int) else 0)] 91 (0, 0))
section
variable {w0 w w' : World} {rb vb sq lo : Nat} {mk : ByteArray} {tm : Option Nat} {b1 b2 b3 : Bool}
theorem stL.put1 (h : stL w0 rb vb sq lo mk tm b1 b2 b3 w) : stL w0 rb vb sq lo mk tm true b2 b3 (w.setCell ⟨rb, 1, none⟩ (.int .i64 sq)) := ⟨h.1.trans (grown_setCell _ _ _ _), heap_setCell h.2 _⟩
theorem stL.put2 (h : stL w0 rb vb sq lo mk tm b1 b2 b3 w) : stL w0 rb vb sq lo mk tm b1 true b3 (w.setCell ⟨rb, 2, none⟩ (.string mk)) := ⟨h.1.trans (grown_setCell _ _ _ _), heap_setCell h.2 _⟩
theorem stL.put3 (h : stL w0 rb vb sq lo mk tm b1 b2 b3 w) : stL w0 rb vb sq lo mk tm b1 b2 true (w.setCell ⟨rb, 4, none⟩ (.int .i64 lo)) := ⟨h.1.trans (grown_setCell _ _ _ _), heap_setCell h.2 _⟩
end
theorem ccmp_neg {c d : Cell} (h : kless (ck c) (ck d) = true) : ccmp c d < 0 := kcmp_neg.2 h
theorem cell5 {w : World} {b : Nat} {v0 v1 v2 v3 v4 : Value} {t : TypeId} {f : Nat × Nat} (h : w.heap[b]? = some (.cells #[v0, v1, v2, v3, v4] t f)) : w.cell? ⟨b, 0, none⟩ = some v0 ∧ w.cell? ⟨b, 1, none⟩ = some v1 ∧ w.cell? ⟨b, 2, none⟩ = some v2 ∧ w.cell? ⟨b, 3, none⟩ = some v3 ∧ w.cell? ⟨b, 4, none⟩ = some v4 := by
  refine ⟨?_, ?_, ?_, ?_, ?_⟩ <;> (rw [cell_in, h]; rfl)
theorem cellsIn_x {w w' : World} {q : Option Addr} {l : List Cell} (h : cellsIn w q l) (hx : ∃ x, w' = ext w x) : cellsIn w' q l := by
  have hb := ext_iff.1 hx
  rcases h with h | ⟨g, hq, hg, hc⟩
  · exact .inl h
  · refine .inr ⟨g, hq, Nat.lt_of_lt_of_le hg hb.size, fun j hj i v hi => ?_⟩
    have := hc j hj i v hi
    rw [cell_in] at this ⊢
    rw [hb.block g hg]; exact this
theorem cellsIn_r4 {w : World} {q : Option Addr} {l : List Cell} {i : Nat} {c : Cell} (h : cellsIn w q l) (hi : l[i]? = some c) : ∃ g, q = some ⟨g, 0, none⟩ ∧ g < w.heap.size ∧
    w.cell? ⟨g, i * 4, none⟩ = some (.string c.table) ∧ w.cell? ⟨g, i * 4 + 1, none⟩ = some (.string c.row) ∧ w.cell? ⟨g, i * 4 + 2, none⟩ = some (.string c.subject) ∧ w.cell? ⟨g, i * 4 + 3, none⟩ = some (.string c.value) := by
  have hl := (List.getElem?_eq_some_iff.1 hi).1
  have he : l[i]! = c := by rw [getElem!_pos l i hl]; exact (List.getElem?_eq_some_iff.1 hi).2
  rcases h with h | ⟨g, hq, hg, hc⟩
  · subst h; simp at hi
  · have h := hc i hl
    rw [he, Nat.zero_add] at h
    exact ⟨g, hq, hg, h 0 _ rfl, h 1 _ rfl, h 2 _ rfl, h 3 _ rfl⟩
def frLda (vb : Nat) (qq : Option Addr) (cp : Nat) (lo : Nat) (gb : Nat) (lb : Nat) (rb : Nat) (u4 : Value) (u5 : Value) (u9 : Value) (u10 : Value) (u63 : Value) (u64 : Value) (u65 : Value) (u66 : Value) (u67 : Value) (u68 : Value) (u69 : Value) (u70 : Value) (u71 : Value) (u72 : Value) (u73 : Value) (u74 : Value) (u75 : Value) (u76 : Value) (u77 : Value) (u78 : Value) (u79 : Value) (u80 : Value) (u81 : Value) (u82 : Value) (u83 : Value) (u84 : Value) (u85 : Value) (u86 : Value) (g : Nat → Value) : Act := { tmps := #[.pointer (some ⟨vb, 0, none⟩), .agg #[.int .i64 0, .string noneS, .slice qq 0 cp, .int .i64 lo], undef, .pointer (some ⟨gb, 0, none⟩), u4, u5, .pointer (some ⟨lb, 0, none⟩), .nilIface, .func (Fn.func 49) #[] #[.pointer (some ⟨lb, 0, none⟩)], u9, u10, .tuple #[.pointer (some ⟨rb, 0, none⟩), .nilIface], .pointer (some ⟨vb, 0, none⟩), .tuple #[.pointer (some ⟨rb, 0, none⟩), .nilIface], .pointer (some ⟨rb, 0, none⟩), .nilIface, .nilIface, .bool false, undef, .pointer (some ⟨gb, 0, none⟩), .int .i64 0, .bool false, .bool false, .pointer (some ⟨gb, 3, none⟩), .int .i64 lo, .bool false, .bool false, .bool false, .pointer (some ⟨gb, 3, none⟩), .int .i64 lo, .pointer (some ⟨gb, 0, none⟩), .int .i64 0, .bool false, .bool false, .bool false, .pointer (some ⟨gb, 1, none⟩), .string noneS, .int .i64 noneS.size, .bool false, .bool false, .bool false, .pointer (some ⟨gb, 0, none⟩), .int .i64 0, .bool true, .bool true, .pointer (some ⟨gb, 1, none⟩), .string noneS, .bool false, .bool false, .pointer (some ⟨gb, 2, none⟩), .slice qq 0 cp, .int .i64 0, .bool false, .bool false, .bool false, .bool false, undef, .func (Fn.func 49) #[] #[.pointer (some ⟨lb, 0, none⟩)], .pointer (some ⟨gb, 2, none⟩), .slice qq 0 cp, .int .i64 0, .int .i64 0, .bool false, u63, u64, u65, u66, u67, u68, u69, u70, u71, u72, u73, u74, u75, u76, u77, u78, u79, u80, u81, u82, u83, u84, u85, u86, g 87, g 88, g 89, g 90, g 91, g 92, g 93, g 94, g 95, g 96, g 97, g 98, g 99, g 100, g 101, undef], defers := [] }
def dstLda (i : Nat) : Nat := ([87, 88, 89, 90, 91, 92, 93, 94, 95, 96, 97, 1011, 98, 99, 1014, 100, 101, 1017] : List Nat).getD i (2000 + i)
def laysLda (sq : Nat) (mk : ByteArray) (lo : Nat) (gb : Nat) (rb : Nat) (j : Nat) (v : Value) (_ : World) : Prop :=
  match j with
  | 0 => v = .pointer (some ⟨rb, 0, none⟩)
  | 1 => v = .pointer (some ⟨rb, 0, none⟩)
  | 2 => v = .pointer (some ⟨rb, 0, none⟩)
  | 3 => v = .pointer (some ⟨gb, 0, none⟩)
  | 4 => v = .int .i64 sq
  | 5 => v = .pointer (some ⟨gb, 1, none⟩)
  | 6 => v = .string mk
  | 7 => v = .pointer (some ⟨gb, 3, none⟩)
  | 8 => v = .int .i64 lo
  | 9 => v = .pointer (some ⟨rb, 0, none⟩)
  | 10 => v = .pointer (some ⟨rb, 1, none⟩)
  | 12 => v = .pointer (some ⟨rb, 0, none⟩)
  | 13 => v = .pointer (some ⟨rb, 2, none⟩)
  | 15 => v = .pointer (some ⟨rb, 0, none⟩)
  | 16 => v = .pointer (some ⟨rb, 4, none⟩)
  | _ => True
def frLdb (vb : Nat) (sq : Nat) (mk : ByteArray) (qq : Option Addr) (nL : Nat) (cp : Nat) (lo : Nat) (gb : Nat) (lb : Nat) (rb : Nat) (u4 : Value) (u5 : Value) (u9 : Value) (u10 : Value) (u63 : Value) (u64 : Value) (u65 : Value) (u66 : Value) (u67 : Value) (u68 : Value) (u69 : Value) (u70 : Value) (u71 : Value) (u72 : Value) (u73 : Value) (u74 : Value) (u75 : Value) (u76 : Value) (u77 : Value) (u78 : Value) (u79 : Value) (u80 : Value) (u81 : Value) (u82 : Value) (u83 : Value) (u84 : Value) (u85 : Value) (u86 : Value) (g : Nat → Value) : Act := { tmps := #[.pointer (some ⟨vb, 0, none⟩), .agg #[.int .i64 sq, .string mk, .slice qq nL cp, .int .i64 lo], undef, .pointer (some ⟨gb, 0, none⟩), u4, u5, .pointer (some ⟨lb, 0, none⟩), .nilIface, .func (Fn.func 49) #[] #[.pointer (some ⟨lb, 0, none⟩)], u9, u10, .tuple #[.pointer (some ⟨rb, 0, none⟩), .nilIface], .pointer (some ⟨vb, 0, none⟩), .tuple #[.pointer (some ⟨rb, 0, none⟩), .nilIface], .pointer (some ⟨rb, 0, none⟩), .nilIface, .nilIface, .bool false, undef, .pointer (some ⟨gb, 0, none⟩), .int .i64 sq, .bool false, .bool false, .pointer (some ⟨gb, 3, none⟩), .int .i64 lo, .bool false, .bool false, .bool false, .pointer (some ⟨gb, 3, none⟩), .int .i64 lo, .pointer (some ⟨gb, 0, none⟩), .int .i64 sq, .bool false, .bool false, .bool false, .pointer (some ⟨gb, 1, none⟩), .string mk, .int .i64 mk.size, .bool false, .bool false, .bool false, .pointer (some ⟨gb, 0, none⟩), .int .i64 sq, .bool false, .bool false, undef, undef, undef, undef, undef, undef, undef, undef, undef, .bool false, .bool false, undef, .func (Fn.func 49) #[] #[.pointer (some ⟨lb, 0, none⟩)], .pointer (some ⟨gb, 2, none⟩), .slice qq nL cp, .int .i64 nL, .int .i64 nL, .bool false, u63, u64, u65, u66, u67, u68, u69, u70, u71, u72, u73, u74, u75, u76, u77, u78, u79, u80, u81, u82, u83, u84, u85, u86, g 87, g 88, g 89, g 90, g 91, g 92, g 93, g 94, g 95, g 96, g 97, g 98, g 99, g 100, g 101, undef], defers := [] }
def dstLdb (i : Nat) : Nat := ([87, 88, 89, 90, 91, 92, 93, 94, 95, 96, 97, 1011, 98, 99, 1014, 100, 101, 1017] : List Nat).getD i (2000 + i)
def laysLdb (sq : Nat) (mk : ByteArray) (lo : Nat) (gb : Nat) (rb : Nat) (j : Nat) (v : Value) (_ : World) : Prop :=
  match j with
  | 0 => v = .pointer (some ⟨rb, 0, none⟩)
  | 1 => v = .pointer (some ⟨rb, 0, none⟩)
  | 2 => v = .pointer (some ⟨rb, 0, none⟩)
  | 3 => v = .pointer (some ⟨gb, 0, none⟩)
  | 4 => v = .int .i64 sq
  | 5 => v = .pointer (some ⟨gb, 1, none⟩)
  | 6 => v = .string mk
  | 7 => v = .pointer (some ⟨gb, 3, none⟩)
  | 8 => v = .int .i64 lo
  | 9 => v = .pointer (some ⟨rb, 0, none⟩)
  | 10 => v = .pointer (some ⟨rb, 1, none⟩)
  | 12 => v = .pointer (some ⟨rb, 0, none⟩)
  | 13 => v = .pointer (some ⟨rb, 2, none⟩)
  | 15 => v = .pointer (some ⟨rb, 0, none⟩)
  | 16 => v = .pointer (some ⟨rb, 4, none⟩)
  | _ => True
set_option maxRecDepth 100000 in
set_option maxHeartbeats 4000000 in
theorem load_any (w : World) (vb sq lo : Nat) (mk : ByteArray) (q : Option Addr) (cp : Nat) (Ls : List Cell) (hci : cellsIn w q Ls) (hasc : Asc Ls) (hrt : ∀ c ∈ Ls, rightE okV (putE c) = true) (hz : Ls.length ≤ 1000) (hlo : lo ≤ sq) (hsq : sq ≤ 1048576) (hmk : mk.size = 16) (h0 : sq = 0 → mk = noneS ∧ Ls = []) :
    Calls Tryz.prog 33 #[.pointer (some ⟨vb, 0, none⟩), .agg #[.int .i64 sq, .string mk, .slice q Ls.length cp, .int .i64 lo]] w fun r w' => ∃ rb D, r = .returned (.tuple #[.pointer (some ⟨rb, 0, none⟩), .nilIface]) ∧ rdIn w' D rb vb Ls.length ⟨sq, mk, putAll Ls [], lo⟩ ∧ step w w' none0 D := by
  have CI := Lib.hid hci
  have HA := Lib.hid hasc
  have HR := Lib.hid hrt
  have HM := Lib.hid hmk
  have H0 := Lib.hid h0
  have GB := Lib.hid (heap_alloc_at w (.cells #[.int .i64 sq, .string mk, .slice q Ls.length cp, .int .i64 lo] 70))
  have XB := Lib.hid (ext_alloc (.cells #[.int .i64 sq, .string mk, .slice q Ls.length cp, .int .i64 lo] 70) (ext_refl w))
  clear hci hasc hrt hmk h0
  go_enter Tryz.func33, Tryz.ntmps33
  go_wp2_with fail
  generalize w.alloc (.cells #[.int .i64 sq, .string mk, .slice q Ls.length cp, .int .i64 lo] 70) = w1 at GB XB ⊢
  have GL := Lib.hid (show w.heap.size < w1.heap.size from lt_of_heap GB.out)
  have GW := Lib.hid (show w.heap.size ≤ w.heap.size from Nat.le_refl _)
  generalize hgb : w.heap.size = gb at GB GL GW ⊢
  have HGB := Lib.hid hgb
  clear hgb
  refine (rnew_any vb w1).mono ?_
  rintro _ w2 ⟨rb, D, rfl, hr2, hs2, hx2⟩
  have R2 := Lib.hid hr2
  have S2 := Lib.hid hs2
  have X2 := Lib.hid hx2
  clear hr2 hs2 hx2
  have L0 := Lib.hid (show ldIn w (w2.alloc (.cells #[.pointer (some ⟨rb, 0, none⟩)] 30)) D gb w2.heap.size rb vb 0 #[.int .i64 sq, .string mk, .slice q Ls.length cp, .int .i64 lo] [] from by
    have ha := ext_alloc (.cells #[.pointer (some ⟨rb, 0, none⟩)] 30) (ext_refl w2)
    have hg2 := ((ext_iff.1 X2.out).block _ (lt_of_heap GB.out)).trans GB.out
    refine ⟨R2.out.ext ha, ((((step.of_ext none0 XB.out).trans S2.out).trans (.of_ext D ha))), ((ext_iff.1 ha).block _ (lt_of_heap hg2)).trans hg2, heap_alloc_at w2 _, fun hD => ?_, fun hD => ?_⟩
    · have := (S2.out.new hD).1; have := GL.out; omega
    · have := R2.out.lt _ hD; omega)
  clear R2 S2 X2 GB XB GL GW
  obtain ⟨g0, g1, g2, g3⟩ := cell4 L0.out.gb_
  have lg := lt_of_heap L0.out.gb_
  have d1 : decide ((sq : Int) < 0) = false := decide_eq_false (by omega)
  have d2 : decide ((lo : Int) < 0) = false := decide_eq_false (by omega)
  have d3 : ¬ sq < lo := by omega
  have d4 : ((mk.size : Int) != 16) = false := by have := HM.out; simp; omega
  by_cases hs0 : sq = 0
  · obtain ⟨rfl, rfl⟩ := H0.out hs0
    subst hs0
    have e0 : noneS.toList = [0, 0, 0, 0, 0, 0, 0, 0, 0, 0, 0, 0, 0, 0, 0, 0] := by rw [ByteArray.toList_eq]; rfl
    go_wp2_with fail
    generalize w2.alloc (.cells #[.pointer (some ⟨rb, 0, none⟩)] 30) = w3 at L0 g0 g1 g2 g3 lg ⊢
    generalize w2.heap.size = lb at L0 ⊢
    clear d1 d2 d3 d4 g0 g1 g2 g3 lg
    go_loopw [61] (fun iv wr => ∃ (k : Nat) (D : Blk), k ≤ ([] : List Cell).length ∧ iv = .int .i64 k ∧ Hid (ldIn w wr D gb lb rb vb k #[.int .i64 0, .string noneS, .slice q ([] : List Cell).length cp, .int .i64 lo] (putAll (([] : List Cell).take k) []))) (fun iv _ => ([] : List Cell).length - (intOf iv).toNat)
    case atStart => exact ⟨0, D, Nat.zero_le _, rfl, L0⟩
    case round =>
      clear L0
      obtain ⟨k, D, hk, rfl, LI⟩ := hrel
      by_cases hlt : k < ([] : List Cell).length
      · exact absurd hlt (by simp)
      · obtain rfl : k = 0 := by simpa using hk
        rw [List.take_nil] at LI
        go_wp2_with fail
        obtain ⟨tm, HTM⟩ := LI.out.rdr
        have RBK := Lib.hid HTM.tab.blk
        have TMM := Lib.hid HTM
        have LB := Lib.hid LI.out.lb_
        have GB := Lib.hid LI.out.gb_
        have NE := Lib.hid (show lb ≠ rb ∧ gb ≠ rb from ⟨fun e => LI.out.off.2 (e ▸ HTM.rb_), fun e => LI.out.off.1 (e ▸ HTM.rb_)⟩)
        have STT := Lib.hid LI.out.st
        clear HTM LI
        refine wp_region_slots (frLda vb q cp lo gb lb rb u4 u5 u9 u10 u63 u64 u65 u66 u67 u68 u69 u70 u71 u72 u73 u74 u75 u76 u77 u78 u79 u80 u81 u82 u83 u84 u85 u86) dstLda (fun _ => undef) (laysLda 0 noneS lo gb rb) (fun L g w => stL wr rb vb 0 lo noneS tm (L 11) (L 14) (L 17) w) (fun w w' => True) (by kernel_rfl) (by kernel_rfl) rfl ?_ (by kernel_rfl) ⟨grown_drawn _ _ _, RBK.out⟩ ?_ ?_
        · exact fun _ _ _ _ _ h => h
        · refine ⟨?_, ?_, ?_, ?_, ?_, ?_, ?_, ?_, ?_, ?_, ?_, ?_, ?_, ?_, ?_, ?_, ?_, ?_, trivial⟩
          all_goals (intro L gs w1 hLi hdeps hR hC; refine ends_of fun Q hQ => ?_)
          · have HQ := fun (a' : Act) (va : Value) (w' : World) (h1 : a' = frLda vb q cp lo gb lb rb u4 u5 u9 u10 u63 u64 u65 u66 u67 u68 u69 u70 u71 u72 u73 u74 u75 u76 u77 u78 u79 u80 u81 u82 u83 u84 u85 u86 (upd1 gs 87 va)) h2 (h3 : laysLda 0 noneS lo gb rb 0 va w') h4 => hQ.out a' w' ⟨va, h1, h2, h3, h4⟩
            have bl := (hC.1.block lb (lt_of_heap LB.out) (fun e => NE.out.1 (Option.some.inj e))).trans LB.out
            have zl : w1.cell? ⟨lb, 0, none⟩ = some (.pointer (some ⟨rb, 0, none⟩)) := by rw [cell_in, bl]; rfl
            have lw1 := lt_of_heap bl
            unfold frLda
            go_wp2_with fail
            exact HQ _ (.pointer (some ⟨rb, 0, none⟩)) _ (by simp only [frLda, upd1, Nat.reduceEqDiff, reduceIte]) trivial rfl hC
          · have HQ := fun (a' : Act) (va : Value) (w' : World) (h1 : a' = frLda vb q cp lo gb lb rb u4 u5 u9 u10 u63 u64 u65 u66 u67 u68 u69 u70 u71 u72 u73 u74 u75 u76 u77 u78 u79 u80 u81 u82 u83 u84 u85 u86 (upd1 gs 88 va)) h2 (h3 : laysLda 0 noneS lo gb rb 1 va w') h4 => hQ.out a' w' ⟨va, h1, h2, h3, h4⟩
            have bl := (hC.1.block lb (lt_of_heap LB.out) (fun e => NE.out.1 (Option.some.inj e))).trans LB.out
            have zl : w1.cell? ⟨lb, 0, none⟩ = some (.pointer (some ⟨rb, 0, none⟩)) := by rw [cell_in, bl]; rfl
            have lw1 := lt_of_heap bl
            unfold frLda
            go_wp2_with fail
            exact HQ _ (.pointer (some ⟨rb, 0, none⟩)) _ (by simp only [frLda, upd1, Nat.reduceEqDiff, reduceIte]) trivial rfl hC
          · have HQ := fun (a' : Act) (va : Value) (w' : World) (h1 : a' = frLda vb q cp lo gb lb rb u4 u5 u9 u10 u63 u64 u65 u66 u67 u68 u69 u70 u71 u72 u73 u74 u75 u76 u77 u78 u79 u80 u81 u82 u83 u84 u85 u86 (upd1 gs 89 va)) h2 (h3 : laysLda 0 noneS lo gb rb 2 va w') h4 => hQ.out a' w' ⟨va, h1, h2, h3, h4⟩
            have bl := (hC.1.block lb (lt_of_heap LB.out) (fun e => NE.out.1 (Option.some.inj e))).trans LB.out
            have zl : w1.cell? ⟨lb, 0, none⟩ = some (.pointer (some ⟨rb, 0, none⟩)) := by rw [cell_in, bl]; rfl
            have lw1 := lt_of_heap bl
            unfold frLda
            go_wp2_with fail
            exact HQ _ (.pointer (some ⟨rb, 0, none⟩)) _ (by simp only [frLda, upd1, Nat.reduceEqDiff, reduceIte]) trivial rfl hC
          · have HQ := fun (a' : Act) (va : Value) (w' : World) (h1 : a' = frLda vb q cp lo gb lb rb u4 u5 u9 u10 u63 u64 u65 u66 u67 u68 u69 u70 u71 u72 u73 u74 u75 u76 u77 u78 u79 u80 u81 u82 u83 u84 u85 u86 (upd1 gs 90 va)) h2 (h3 : laysLda 0 noneS lo gb rb 3 va w') h4 => hQ.out a' w' ⟨va, h1, h2, h3, h4⟩
            unfold frLda
            go_wp2_with fail
            exact HQ _ (.pointer (some ⟨gb, 0, none⟩)) _ (by simp only [frLda, upd1, Nat.reduceEqDiff, reduceIte]) trivial rfl hC
          · have HQ := fun (a' : Act) (va : Value) (w' : World) (h1 : a' = frLda vb q cp lo gb lb rb u4 u5 u9 u10 u63 u64 u65 u66 u67 u68 u69 u70 u71 u72 u73 u74 u75 u76 u77 u78 u79 u80 u81 u82 u83 u84 u85 u86 (upd1 gs 91 va)) h2 (h3 : laysLda 0 noneS lo gb rb 4 va w') h4 => hQ.out a' w' ⟨va, h1, h2, h3, h4⟩
            have r3 : gs 90 = .pointer (some ⟨gb, 0, none⟩) := hR 3 (hdeps ⟨3, .data⟩ (by simp) rfl)
            have bg := (hC.1.block gb (lt_of_heap GB.out) (fun e => NE.out.2 (Option.some.inj e))).trans GB.out
            obtain ⟨z0, z1, z2, z3⟩ := cell4 bg
            have lw1 := lt_of_heap bg
            unfold frLda
            go_wp2_with fail
            exact HQ _ (.int .i64 0) _ (by simp only [frLda, upd1, r3, Nat.reduceEqDiff, reduceIte]) trivial rfl hC
          · have HQ := fun (a' : Act) (va : Value) (w' : World) (h1 : a' = frLda vb q cp lo gb lb rb u4 u5 u9 u10 u63 u64 u65 u66 u67 u68 u69 u70 u71 u72 u73 u74 u75 u76 u77 u78 u79 u80 u81 u82 u83 u84 u85 u86 (upd1 gs 92 va)) h2 (h3 : laysLda 0 noneS lo gb rb 5 va w') h4 => hQ.out a' w' ⟨va, h1, h2, h3, h4⟩
            unfold frLda
            go_wp2_with fail
            exact HQ _ (.pointer (some ⟨gb, 1, none⟩)) _ (by simp only [frLda, upd1, Nat.reduceEqDiff, reduceIte]) trivial rfl hC
          · have HQ := fun (a' : Act) (va : Value) (w' : World) (h1 : a' = frLda vb q cp lo gb lb rb u4 u5 u9 u10 u63 u64 u65 u66 u67 u68 u69 u70 u71 u72 u73 u74 u75 u76 u77 u78 u79 u80 u81 u82 u83 u84 u85 u86 (upd1 gs 93 va)) h2 (h3 : laysLda 0 noneS lo gb rb 6 va w') h4 => hQ.out a' w' ⟨va, h1, h2, h3, h4⟩
            have r5 : gs 92 = .pointer (some ⟨gb, 1, none⟩) := hR 5 (hdeps ⟨5, .data⟩ (by simp) rfl)
            have bg := (hC.1.block gb (lt_of_heap GB.out) (fun e => NE.out.2 (Option.some.inj e))).trans GB.out
            obtain ⟨z0, z1, z2, z3⟩ := cell4 bg
            have lw1 := lt_of_heap bg
            unfold frLda
            go_wp2_with fail
            exact HQ _ (.string noneS) _ (by simp only [frLda, upd1, r5, Nat.reduceEqDiff, reduceIte]) trivial rfl hC
          · have HQ := fun (a' : Act) (va : Value) (w' : World) (h1 : a' = frLda vb q cp lo gb lb rb u4 u5 u9 u10 u63 u64 u65 u66 u67 u68 u69 u70 u71 u72 u73 u74 u75 u76 u77 u78 u79 u80 u81 u82 u83 u84 u85 u86 (upd1 gs 94 va)) h2 (h3 : laysLda 0 noneS lo gb rb 7 va w') h4 => hQ.out a' w' ⟨va, h1, h2, h3, h4⟩
            unfold frLda
            go_wp2_with fail
            exact HQ _ (.pointer (some ⟨gb, 3, none⟩)) _ (by simp only [frLda, upd1, Nat.reduceEqDiff, reduceIte]) trivial rfl hC
          · have HQ := fun (a' : Act) (va : Value) (w' : World) (h1 : a' = frLda vb q cp lo gb lb rb u4 u5 u9 u10 u63 u64 u65 u66 u67 u68 u69 u70 u71 u72 u73 u74 u75 u76 u77 u78 u79 u80 u81 u82 u83 u84 u85 u86 (upd1 gs 95 va)) h2 (h3 : laysLda 0 noneS lo gb rb 8 va w') h4 => hQ.out a' w' ⟨va, h1, h2, h3, h4⟩
            have r7 : gs 94 = .pointer (some ⟨gb, 3, none⟩) := hR 7 (hdeps ⟨7, .data⟩ (by simp) rfl)
            have bg := (hC.1.block gb (lt_of_heap GB.out) (fun e => NE.out.2 (Option.some.inj e))).trans GB.out
            obtain ⟨z0, z1, z2, z3⟩ := cell4 bg
            have lw1 := lt_of_heap bg
            unfold frLda
            go_wp2_with fail
            exact HQ _ (.int .i64 lo) _ (by simp only [frLda, upd1, r7, Nat.reduceEqDiff, reduceIte]) trivial rfl hC
          · have HQ := fun (a' : Act) (va : Value) (w' : World) (h1 : a' = frLda vb q cp lo gb lb rb u4 u5 u9 u10 u63 u64 u65 u66 u67 u68 u69 u70 u71 u72 u73 u74 u75 u76 u77 u78 u79 u80 u81 u82 u83 u84 u85 u86 (upd1 gs 96 va)) h2 (h3 : laysLda 0 noneS lo gb rb 9 va w') h4 => hQ.out a' w' ⟨va, h1, h2, h3, h4⟩
            have r0 : gs 87 = .pointer (some ⟨rb, 0, none⟩) := hR 0 (hdeps ⟨0, .data⟩ (by simp) rfl)
            unfold frLda
            go_wp2_with fail
            exact HQ _ (.pointer (some ⟨rb, 0, none⟩)) _ (by simp only [frLda, upd1, r0, Nat.reduceEqDiff, reduceIte]) trivial rfl hC
          · have HQ := fun (a' : Act) (va : Value) (w' : World) (h1 : a' = frLda vb q cp lo gb lb rb u4 u5 u9 u10 u63 u64 u65 u66 u67 u68 u69 u70 u71 u72 u73 u74 u75 u76 u77 u78 u79 u80 u81 u82 u83 u84 u85 u86 (upd1 gs 97 va)) h2 (h3 : laysLda 0 noneS lo gb rb 10 va w') h4 => hQ.out a' w' ⟨va, h1, h2, h3, h4⟩
            have r9 : gs 96 = .pointer (some ⟨rb, 0, none⟩) := hR 9 (hdeps ⟨9, .data⟩ (by simp) rfl)
            unfold frLda
            go_wp2_with fail
            exact HQ _ (.pointer (some ⟨rb, 1, none⟩)) _ (by simp only [frLda, upd1, r9, Nat.reduceEqDiff, reduceIte]) trivial rfl hC
          · have HQ := fun (a' : Act) (va : Value) (w' : World) (h1 : a' = frLda vb q cp lo gb lb rb u4 u5 u9 u10 u63 u64 u65 u66 u67 u68 u69 u70 u71 u72 u73 u74 u75 u76 u77 u78 u79 u80 u81 u82 u83 u84 u85 u86 (upd1 gs 1011 va)) h2 (h3 : laysLda 0 noneS lo gb rb 11 va w') h4 => hQ.out a' w' ⟨va, h1, h2, h3, h4⟩
            have r4 : gs 91 = .int .i64 0 := hR 4 (hdeps ⟨4, .data⟩ (by simp) rfl)
            have r10 : gs 97 = .pointer (some ⟨rb, 1, none⟩) := hR 10 (hdeps ⟨10, .data⟩ (by simp) rfl)
            have b0 := hC.2
            have ff := free_of_heap b0
            have lw1 := lt_of_heap b0
            generalize (if L 11 = true then (((0 : Nat)) : Int) else 0) = zz at b0
            generalize (if L 14 = true then noneS else noneS) = zm at b0
            generalize (if L 17 = true then (lo : Int) else 0) = zo at b0
            obtain ⟨y0, y1, y2, y3, y4⟩ := cell5 b0
            unfold frLda
            go_wp2_with fail
            exact HQ _ undef _ (by simp only [frLda, upd1, r4, r10, Nat.reduceEqDiff, reduceIte]) trivial trivial (stL.put1 hC)
          · have HQ := fun (a' : Act) (va : Value) (w' : World) (h1 : a' = frLda vb q cp lo gb lb rb u4 u5 u9 u10 u63 u64 u65 u66 u67 u68 u69 u70 u71 u72 u73 u74 u75 u76 u77 u78 u79 u80 u81 u82 u83 u84 u85 u86 (upd1 gs 98 va)) h2 (h3 : laysLda 0 noneS lo gb rb 12 va w') h4 => hQ.out a' w' ⟨va, h1, h2, h3, h4⟩
            have r1 : gs 88 = .pointer (some ⟨rb, 0, none⟩) := hR 1 (hdeps ⟨1, .data⟩ (by simp) rfl)
            unfold frLda
            go_wp2_with fail
            exact HQ _ (.pointer (some ⟨rb, 0, none⟩)) _ (by simp only [frLda, upd1, r1, Nat.reduceEqDiff, reduceIte]) trivial rfl hC
          · have HQ := fun (a' : Act) (va : Value) (w' : World) (h1 : a' = frLda vb q cp lo gb lb rb u4 u5 u9 u10 u63 u64 u65 u66 u67 u68 u69 u70 u71 u72 u73 u74 u75 u76 u77 u78 u79 u80 u81 u82 u83 u84 u85 u86 (upd1 gs 99 va)) h2 (h3 : laysLda 0 noneS lo gb rb 13 va w') h4 => hQ.out a' w' ⟨va, h1, h2, h3, h4⟩
            have r12 : gs 98 = .pointer (some ⟨rb, 0, none⟩) := hR 12 (hdeps ⟨12, .data⟩ (by simp) rfl)
            unfold frLda
            go_wp2_with fail
            exact HQ _ (.pointer (some ⟨rb, 2, none⟩)) _ (by simp only [frLda, upd1, r12, Nat.reduceEqDiff, reduceIte]) trivial rfl hC
          · have HQ := fun (a' : Act) (va : Value) (w' : World) (h1 : a' = frLda vb q cp lo gb lb rb u4 u5 u9 u10 u63 u64 u65 u66 u67 u68 u69 u70 u71 u72 u73 u74 u75 u76 u77 u78 u79 u80 u81 u82 u83 u84 u85 u86 (upd1 gs 1014 va)) h2 (h3 : laysLda 0 noneS lo gb rb 14 va w') h4 => hQ.out a' w' ⟨va, h1, h2, h3, h4⟩
            have r6 : gs 93 = .string noneS := hR 6 (hdeps ⟨6, .data⟩ (by simp) rfl)
            have r13 : gs 99 = .pointer (some ⟨rb, 2, none⟩) := hR 13 (hdeps ⟨13, .data⟩ (by simp) rfl)
            have b0 := hC.2
            have ff := free_of_heap b0
            have lw1 := lt_of_heap b0
            generalize (if L 11 = true then (((0 : Nat)) : Int) else 0) = zz at b0
            generalize (if L 14 = true then noneS else noneS) = zm at b0
            generalize (if L 17 = true then (lo : Int) else 0) = zo at b0
            obtain ⟨y0, y1, y2, y3, y4⟩ := cell5 b0
            unfold frLda
            go_wp2_with fail
            exact HQ _ undef _ (by simp only [frLda, upd1, r6, r13, Nat.reduceEqDiff, reduceIte]) trivial trivial (stL.put2 hC)
          · have HQ := fun (a' : Act) (va : Value) (w' : World) (h1 : a' = frLda vb q cp lo gb lb rb u4 u5 u9 u10 u63 u64 u65 u66 u67 u68 u69 u70 u71 u72 u73 u74 u75 u76 u77 u78 u79 u80 u81 u82 u83 u84 u85 u86 (upd1 gs 100 va)) h2 (h3 : laysLda 0 noneS lo gb rb 15 va w') h4 => hQ.out a' w' ⟨va, h1, h2, h3, h4⟩
            have r2 : gs 89 = .pointer (some ⟨rb, 0, none⟩) := hR 2 (hdeps ⟨2, .data⟩ (by simp) rfl)
            unfold frLda
            go_wp2_with fail
            exact HQ _ (.pointer (some ⟨rb, 0, none⟩)) _ (by simp only [frLda, upd1, r2, Nat.reduceEqDiff, reduceIte]) trivial rfl hC
          · have HQ := fun (a' : Act) (va : Value) (w' : World) (h1 : a' = frLda vb q cp lo gb lb rb u4 u5 u9 u10 u63 u64 u65 u66 u67 u68 u69 u70 u71 u72 u73 u74 u75 u76 u77 u78 u79 u80 u81 u82 u83 u84 u85 u86 (upd1 gs 101 va)) h2 (h3 : laysLda 0 noneS lo gb rb 16 va w') h4 => hQ.out a' w' ⟨va, h1, h2, h3, h4⟩
            have r15 : gs 100 = .pointer (some ⟨rb, 0, none⟩) := hR 15 (hdeps ⟨15, .data⟩ (by simp) rfl)
            unfold frLda
            go_wp2_with fail
            exact HQ _ (.pointer (some ⟨rb, 4, none⟩)) _ (by simp only [frLda, upd1, r15, Nat.reduceEqDiff, reduceIte]) trivial rfl hC
          · have HQ := fun (a' : Act) (va : Value) (w' : World) (h1 : a' = frLda vb q cp lo gb lb rb u4 u5 u9 u10 u63 u64 u65 u66 u67 u68 u69 u70 u71 u72 u73 u74 u75 u76 u77 u78 u79 u80 u81 u82 u83 u84 u85 u86 (upd1 gs 1017 va)) h2 (h3 : laysLda 0 noneS lo gb rb 17 va w') h4 => hQ.out a' w' ⟨va, h1, h2, h3, h4⟩
            have r8 : gs 95 = .int .i64 lo := hR 8 (hdeps ⟨8, .data⟩ (by simp) rfl)
            have r16 : gs 101 = .pointer (some ⟨rb, 4, none⟩) := hR 16 (hdeps ⟨16, .data⟩ (by simp) rfl)
            have b0 := hC.2
            have ff := free_of_heap b0
            have lw1 := lt_of_heap b0
            generalize (if L 11 = true then (((0 : Nat)) : Int) else 0) = zz at b0
            generalize (if L 14 = true then noneS else noneS) = zm at b0
            generalize (if L 17 = true then (lo : Int) else 0) = zo at b0
            obtain ⟨y0, y1, y2, y3, y4⟩ := cell5 b0
            unfold frLda
            go_wp2_with fail
            exact HQ _ undef _ (by simp only [frLda, upd1, r8, r16, Nat.reduceEqDiff, reduceIte]) trivial trivial (stL.put3 hC)
        intro L13 g13 w13 hall hR hC
        have HC := hC
        rw [hall 11 (by decide), hall 14 (by decide), hall 17 (by decide)] at HC
        have BLL := Lib.hid ((HC.1.block lb (lt_of_heap LB.out) (fun e => NE.out.1 (Option.some.inj e))).trans LB.out)
        have RB9 := Lib.hid HC
        clear hC hall hR HC
        have zl : w13.cell? ⟨lb, 0, none⟩ = some (.pointer (some ⟨rb, 0, none⟩)) := by rw [cell_in, BLL.out]; rfl
        have lw := lt_of_heap BLL.out
        unfold frLda
        go_wp2_with fail
        go_ret2

        obtain ⟨h9, hb9⟩ := RB9.out
        rw [if_pos rfl, if_pos rfl, if_pos rfl] at hb9
        refine ⟨rb, rfl, D, ⟨tm, ?_, TMM.out.rb_, TMM.out.tm_, ?_, hsq, hlo⟩, STT.out.trans (.of_grown h9 (fun j hj => by cases hj; exact TMM.out.rb_))⟩
        · refine ⟨hb9, TMM.out.tab.nil, fun c hc => (TMM.out.tab.map c hc).kept h9 (fun e => ?_)⟩
          injection e with e
          subst e
          have := TMM.out.tab
          rw [hc] at this
          exact this.ne rfl
        · exact fun i hi => Nat.lt_of_lt_of_le (TMM.out.lt i hi) h9.size
  · have d5 : ((sq : Int) == 0) = false := beq_eq_false_iff_ne.2 (by omega)
    go_wp2_with fail
    generalize w2.alloc (.cells #[.pointer (some ⟨rb, 0, none⟩)] 30) = w3 at L0 g0 g1 g2 g3 lg ⊢
    generalize w2.heap.size = lb at L0 ⊢
    clear d1 d2 d3 d4 g0 g1 g2 g3 lg
    go_loopw [61] (fun iv wr => ∃ (k : Nat) (D : Blk), k ≤ Ls.length ∧ iv = .int .i64 k ∧ Hid (ldIn w wr D gb lb rb vb k #[.int .i64 sq, .string mk, .slice q Ls.length cp, .int .i64 lo] (putAll (Ls.take k) []))) (fun iv _ => Ls.length - (intOf iv).toNat)
    case atStart => exact ⟨0, D, Nat.zero_le _, rfl, L0⟩
    case round =>
      clear L0
      obtain ⟨k, D, hk, rfl, LI⟩ := hrel
      by_cases hlt : k < Ls.length
      · have hlt' : (k : Int) < Ls.length := by omega
        have hx := List.getElem?_eq_getElem hlt
        have hrc := HR.out _ (List.getElem_mem hlt)
        have HP := Lib.hid (show putAll (Ls.take (k + 1)) [] = putT Ls[k] (putAll (Ls.take k) []) from by rw [List.take_add_one, hx, Option.toList_some, putAll_snoc])
        have CIX := Lib.hid (fun W (hW : ∃ z, W = ext wr z) => cellsIn_x CI.out (ext_trans LI.out.st.ext hW))
        obtain ⟨gw, rfl, hgw, r0, r1, r2, r3⟩ := cellsIn_r4 (CIX.out wr (ext_refl wr)) hx
        have TC := fun W (h0 : 0 < k) => (tcompare_any Ls[k - 1]! Ls[k] W)
        have AS := Lib.hid (fun (h0 : 0 < k) => show ccmp Ls[k - 1]! Ls[k] < 0 from by
          have h1 : k - 1 < Ls.length := by omega
          have := List.pairwise_iff_getElem.1 HA.out (k - 1) k h1 hlt (by omega)
          rw [getElem!_pos Ls (k - 1) h1]
          exact ccmp_neg this)
        have PV := Lib.hid (fun W (hW : ∃ z, W = ext wr z) (h0 : 0 < k) => cellsIn_r4 (i := k - 1) (c := Ls[k - 1]!) (CIX.out W hW) (by rw [getElem!_pos Ls (k - 1) (by omega)]; exact List.getElem?_eq_getElem _))
        generalize Ls[k] = c at hx hrc HP r0 r1 r2 r3 TC AS
        generalize Ls[k - 1]! = c' at TC AS PV
        obtain ⟨c1, c2, c3, c4⟩ := c
        obtain ⟨f1, f2, f3, f4⟩ := c'
        dsimp only at r0 r1 r2 r3
        have gx := hgw
        clear hx
        have HG := Lib.hid (heap_alloc_at wr (.cells #[.string c1, .string c2, .string c3, .string c4] 45))
        have LA := Lib.hid (LI.out.ext (ext_alloc (.cells #[.string c1, .string c2, .string c3, .string c4] 45) (ext_refl wr)))
        have XA := Lib.hid (ext_alloc (.cells #[.string c1, .string c2, .string c3, .string c4] 45) (ext_refl wr))
        go_wp2_with fail
        generalize wr.alloc (.cells #[.string c1, .string c2, .string c3, .string c4] 45) = wa at HG LA XA ⊢
        generalize wr.heap.size = cb at HG ⊢
        clear r0 r1 r2 r3
        obtain ⟨d0, d1, d2, d3⟩ := cell_cells (c := ⟨c1, c2, c3, c4⟩) HG.out
        dsimp only at d0 d1 d2 d3
        have lc := lt_of_heap HG.out
        obtain ⟨g0, g1, g2, g3⟩ := cell4 LA.out.gb_
        have lg := lt_of_heap LA.out.gb_
        rcases Nat.eq_zero_or_pos k with hk0 | hk0
        · have hk1 : ¬ 0 < k := by omega
          clear hk0 TC AS PV
          refine wp_region_tail 16 (by kernel_rfl) (by kernel_rfl) ?_
          simp only [List.take_succ_cons, List.take_zero, List.drop_succ_cons, List.drop_zero]
          repeat (go_big_quiet_step (fail))
          refine wpQuiet_nil ?_
          rintro _ ⟨x, rfl⟩
          have hx : ∃ x', ext wa x = ext wa x' := ⟨x, rfl⟩
          have LX := Lib.hid (LA.out.ext hx)
          generalize ext wa x = wx at LX ⊢
          clear hx d0 d1 d2 d3 lc g0 g1 g2 g3 lg LA XA HG
          have PU := put1_any ⟨c1, c2, c3, c4⟩ wx D lb rb vb k _ LX.out.rdr LX.out.lb_ hrc (by omega)
          unfold cellA at PU
          dsimp only at PU
          go_wp2_with fail
          refine PU.mono ?_
          rintro _ wp ⟨rfl, D', hr', hs'⟩
          have LP := Lib.hid (LX.out.put hr' hs')
          clear hr' hs' PU LX
          go_wp2_with fail
          go_roundw
          case rel => exact ⟨k + 1, D', hlt, by go_num, Lib.hid (by rw [HP.out]; exact LP.out)⟩
          case measure => simp [intOf]; omega
        · obtain ⟨gw', hq', hg', p0, p1, p2, p3⟩ := PV.out wa XA.out hk0
          simp only [Option.some.injEq, Addr.mk.injEq, and_true] at hq'
          subst hq'
          have hc1 : (k : Int) - 1 = ((k - 1 : Nat) : Int) := by omega
          have hk1 : ((k - 1 : Nat) : Int) < Ls.length := by omega
          unfold cellA at TC
          dsimp only at TC
          have hcm := AS.out hk0
          generalize ccmp ⟨f1, f2, f3, f4⟩ ⟨c1, c2, c3, c4⟩ = r at TC hcm
          have hcm' : decide (r ≥ 0) = false := decide_eq_false (by omega)
          clear hcm AS PV
          refine wp_region_tail 16 (by kernel_rfl) (by kernel_rfl) ?_
          simp only [List.take_succ_cons, List.take_zero, List.drop_succ_cons, List.drop_zero]
          repeat (go_big_quiet_step ((go_at_call 50; refine (TC _ hk0).mono ?_; rintro _ _ ⟨rfl, hx⟩; exact ⟨rfl, ext_trans ⟨_, rfl⟩ hx⟩)))
          refine wpQuiet_nil ?_
          rintro _ ⟨x, rfl⟩
          have hx : ∃ x', ext wa x = ext wa x' := ⟨x, rfl⟩
          have LX := Lib.hid (LA.out.ext hx)
          generalize ext wa x = wx at LX ⊢
          clear hx p0 p1 p2 p3 d0 d1 d2 d3 lc g0 g1 g2 g3 lg LA XA HG
          have PU := put1_any ⟨c1, c2, c3, c4⟩ wx D lb rb vb k _ LX.out.rdr LX.out.lb_ hrc (by omega)
          unfold cellA at PU
          dsimp only at PU
          go_wp2_with fail
          refine PU.mono ?_
          rintro _ wp ⟨rfl, D', hr', hs'⟩
          have LP := Lib.hid (LX.out.put hr' hs')
          clear hr' hs' PU LX
          go_wp2_with fail
          go_roundw
          case rel => exact ⟨k + 1, D', hlt, by go_num, Lib.hid (by rw [HP.out]; exact LP.out)⟩
          case measure => simp [intOf]; omega
      · obtain rfl : k = Ls.length := by omega
        rw [List.take_length] at LI
        go_wp2_with fail
        obtain ⟨tm, HTM⟩ := LI.out.rdr
        have RBK := Lib.hid HTM.tab.blk
        have TMM := Lib.hid HTM
        have LB := Lib.hid LI.out.lb_
        have GB := Lib.hid LI.out.gb_
        have NE := Lib.hid (show lb ≠ rb ∧ gb ≠ rb from ⟨fun e => LI.out.off.2 (e ▸ HTM.rb_), fun e => LI.out.off.1 (e ▸ HTM.rb_)⟩)
        have STT := Lib.hid LI.out.st
        clear HTM LI
        refine wp_region_slots (frLdb vb sq mk q Ls.length cp lo gb lb rb u4 u5 u9 u10 u63 u64 u65 u66 u67 u68 u69 u70 u71 u72 u73 u74 u75 u76 u77 u78 u79 u80 u81 u82 u83 u84 u85 u86) dstLdb (fun _ => undef) (laysLdb sq mk lo gb rb) (fun L g w => stL wr rb vb sq lo mk tm (L 11) (L 14) (L 17) w) (fun w w' => True) (by kernel_rfl) (by kernel_rfl) rfl ?_ (by kernel_rfl) ⟨grown_drawn _ _ _, RBK.out⟩ ?_ ?_
        · exact fun _ _ _ _ _ h => h
        · refine ⟨?_, ?_, ?_, ?_, ?_, ?_, ?_, ?_, ?_, ?_, ?_, ?_, ?_, ?_, ?_, ?_, ?_, ?_, trivial⟩
          all_goals (intro L gs w1 hLi hdeps hR hC; refine ends_of fun Q hQ => ?_)
          · have HQ := fun (a' : Act) (va : Value) (w' : World) (h1 : a' = frLdb vb sq mk q Ls.length cp lo gb lb rb u4 u5 u9 u10 u63 u64 u65 u66 u67 u68 u69 u70 u71 u72 u73 u74 u75 u76 u77 u78 u79 u80 u81 u82 u83 u84 u85 u86 (upd1 gs 87 va)) h2 (h3 : laysLdb sq mk lo gb rb 0 va w') h4 => hQ.out a' w' ⟨va, h1, h2, h3, h4⟩
            have bl := (hC.1.block lb (lt_of_heap LB.out) (fun e => NE.out.1 (Option.some.inj e))).trans LB.out
            have zl : w1.cell? ⟨lb, 0, none⟩ = some (.pointer (some ⟨rb, 0, none⟩)) := by rw [cell_in, bl]; rfl
            have lw1 := lt_of_heap bl
            unfold frLdb
            go_wp2_with fail
            exact HQ _ (.pointer (some ⟨rb, 0, none⟩)) _ (by simp only [frLdb, upd1, Nat.reduceEqDiff, reduceIte]) trivial rfl hC
          · have HQ := fun (a' : Act) (va : Value) (w' : World) (h1 : a' = frLdb vb sq mk q Ls.length cp lo gb lb rb u4 u5 u9 u10 u63 u64 u65 u66 u67 u68 u69 u70 u71 u72 u73 u74 u75 u76 u77 u78 u79 u80 u81 u82 u83 u84 u85 u86 (upd1 gs 88 va)) h2 (h3 : laysLdb sq mk lo gb rb 1 va w') h4 => hQ.out a' w' ⟨va, h1, h2, h3, h4⟩
            have bl := (hC.1.block lb (lt_of_heap LB.out) (fun e => NE.out.1 (Option.some.inj e))).trans LB.out
            have zl : w1.cell? ⟨lb, 0, none⟩ = some (.pointer (some ⟨rb, 0, none⟩)) := by rw [cell_in, bl]; rfl
            have lw1 := lt_of_heap bl
            unfold frLdb
            go_wp2_with fail
            exact HQ _ (.pointer (some ⟨rb, 0, none⟩)) _ (by simp only [frLdb, upd1, Nat.reduceEqDiff, reduceIte]) trivial rfl hC
          · have HQ := fun (a' : Act) (va : Value) (w' : World) (h1 : a' = frLdb vb sq mk q Ls.length cp lo gb lb rb u4 u5 u9 u10 u63 u64 u65 u66 u67 u68 u69 u70 u71 u72 u73 u74 u75 u76 u77 u78 u79 u80 u81 u82 u83 u84 u85 u86 (upd1 gs 89 va)) h2 (h3 : laysLdb sq mk lo gb rb 2 va w') h4 => hQ.out a' w' ⟨va, h1, h2, h3, h4⟩
            have bl := (hC.1.block lb (lt_of_heap LB.out) (fun e => NE.out.1 (Option.some.inj e))).trans LB.out
            have zl : w1.cell? ⟨lb, 0, none⟩ = some (.pointer (some ⟨rb, 0, none⟩)) := by rw [cell_in, bl]; rfl
            have lw1 := lt_of_heap bl
            unfold frLdb
            go_wp2_with fail
            exact HQ _ (.pointer (some ⟨rb, 0, none⟩)) _ (by simp only [frLdb, upd1, Nat.reduceEqDiff, reduceIte]) trivial rfl hC
          · have HQ := fun (a' : Act) (va : Value) (w' : World) (h1 : a' = frLdb vb sq mk q Ls.length cp lo gb lb rb u4 u5 u9 u10 u63 u64 u65 u66 u67 u68 u69 u70 u71 u72 u73 u74 u75 u76 u77 u78 u79 u80 u81 u82 u83 u84 u85 u86 (upd1 gs 90 va)) h2 (h3 : laysLdb sq mk lo gb rb 3 va w') h4 => hQ.out a' w' ⟨va, h1, h2, h3, h4⟩
            unfold frLdb
            go_wp2_with fail
            exact HQ _ (.pointer (some ⟨gb, 0, none⟩)) _ (by simp only [frLdb, upd1, Nat.reduceEqDiff, reduceIte]) trivial rfl hC
          · have HQ := fun (a' : Act) (va : Value) (w' : World) (h1 : a' = frLdb vb sq mk q Ls.length cp lo gb lb rb u4 u5 u9 u10 u63 u64 u65 u66 u67 u68 u69 u70 u71 u72 u73 u74 u75 u76 u77 u78 u79 u80 u81 u82 u83 u84 u85 u86 (upd1 gs 91 va)) h2 (h3 : laysLdb sq mk lo gb rb 4 va w') h4 => hQ.out a' w' ⟨va, h1, h2, h3, h4⟩
            have r3 : gs 90 = .pointer (some ⟨gb, 0, none⟩) := hR 3 (hdeps ⟨3, .data⟩ (by simp) rfl)
            have bg := (hC.1.block gb (lt_of_heap GB.out) (fun e => NE.out.2 (Option.some.inj e))).trans GB.out
            obtain ⟨z0, z1, z2, z3⟩ := cell4 bg
            have lw1 := lt_of_heap bg
            unfold frLdb
            go_wp2_with fail
            exact HQ _ (.int .i64 sq) _ (by simp only [frLdb, upd1, r3, Nat.reduceEqDiff, reduceIte]) trivial rfl hC
          · have HQ := fun (a' : Act) (va : Value) (w' : World) (h1 : a' = frLdb vb sq mk q Ls.length cp lo gb lb rb u4 u5 u9 u10 u63 u64 u65 u66 u67 u68 u69 u70 u71 u72 u73 u74 u75 u76 u77 u78 u79 u80 u81 u82 u83 u84 u85 u86 (upd1 gs 92 va)) h2 (h3 : laysLdb sq mk lo gb rb 5 va w') h4 => hQ.out a' w' ⟨va, h1, h2, h3, h4⟩
            unfold frLdb
            go_wp2_with fail
            exact HQ _ (.pointer (some ⟨gb, 1, none⟩)) _ (by simp only [frLdb, upd1, Nat.reduceEqDiff, reduceIte]) trivial rfl hC
          · have HQ := fun (a' : Act) (va : Value) (w' : World) (h1 : a' = frLdb vb sq mk q Ls.length cp lo gb lb rb u4 u5 u9 u10 u63 u64 u65 u66 u67 u68 u69 u70 u71 u72 u73 u74 u75 u76 u77 u78 u79 u80 u81 u82 u83 u84 u85 u86 (upd1 gs 93 va)) h2 (h3 : laysLdb sq mk lo gb rb 6 va w') h4 => hQ.out a' w' ⟨va, h1, h2, h3, h4⟩
            have r5 : gs 92 = .pointer (some ⟨gb, 1, none⟩) := hR 5 (hdeps ⟨5, .data⟩ (by simp) rfl)
            have bg := (hC.1.block gb (lt_of_heap GB.out) (fun e => NE.out.2 (Option.some.inj e))).trans GB.out
            obtain ⟨z0, z1, z2, z3⟩ := cell4 bg
            have lw1 := lt_of_heap bg
            unfold frLdb
            go_wp2_with fail
            exact HQ _ (.string mk) _ (by simp only [frLdb, upd1, r5, Nat.reduceEqDiff, reduceIte]) trivial rfl hC
          · have HQ := fun (a' : Act) (va : Value) (w' : World) (h1 : a' = frLdb vb sq mk q Ls.length cp lo gb lb rb u4 u5 u9 u10 u63 u64 u65 u66 u67 u68 u69 u70 u71 u72 u73 u74 u75 u76 u77 u78 u79 u80 u81 u82 u83 u84 u85 u86 (upd1 gs 94 va)) h2 (h3 : laysLdb sq mk lo gb rb 7 va w') h4 => hQ.out a' w' ⟨va, h1, h2, h3, h4⟩
            unfold frLdb
            go_wp2_with fail
            exact HQ _ (.pointer (some ⟨gb, 3, none⟩)) _ (by simp only [frLdb, upd1, Nat.reduceEqDiff, reduceIte]) trivial rfl hC
          · have HQ := fun (a' : Act) (va : Value) (w' : World) (h1 : a' = frLdb vb sq mk q Ls.length cp lo gb lb rb u4 u5 u9 u10 u63 u64 u65 u66 u67 u68 u69 u70 u71 u72 u73 u74 u75 u76 u77 u78 u79 u80 u81 u82 u83 u84 u85 u86 (upd1 gs 95 va)) h2 (h3 : laysLdb sq mk lo gb rb 8 va w') h4 => hQ.out a' w' ⟨va, h1, h2, h3, h4⟩
            have r7 : gs 94 = .pointer (some ⟨gb, 3, none⟩) := hR 7 (hdeps ⟨7, .data⟩ (by simp) rfl)
            have bg := (hC.1.block gb (lt_of_heap GB.out) (fun e => NE.out.2 (Option.some.inj e))).trans GB.out
            obtain ⟨z0, z1, z2, z3⟩ := cell4 bg
            have lw1 := lt_of_heap bg
            unfold frLdb
            go_wp2_with fail
            exact HQ _ (.int .i64 lo) _ (by simp only [frLdb, upd1, r7, Nat.reduceEqDiff, reduceIte]) trivial rfl hC
          · have HQ := fun (a' : Act) (va : Value) (w' : World) (h1 : a' = frLdb vb sq mk q Ls.length cp lo gb lb rb u4 u5 u9 u10 u63 u64 u65 u66 u67 u68 u69 u70 u71 u72 u73 u74 u75 u76 u77 u78 u79 u80 u81 u82 u83 u84 u85 u86 (upd1 gs 96 va)) h2 (h3 : laysLdb sq mk lo gb rb 9 va w') h4 => hQ.out a' w' ⟨va, h1, h2, h3, h4⟩
            have r0 : gs 87 = .pointer (some ⟨rb, 0, none⟩) := hR 0 (hdeps ⟨0, .data⟩ (by simp) rfl)
            unfold frLdb
            go_wp2_with fail
            exact HQ _ (.pointer (some ⟨rb, 0, none⟩)) _ (by simp only [frLdb, upd1, r0, Nat.reduceEqDiff, reduceIte]) trivial rfl hC
          · have HQ := fun (a' : Act) (va : Value) (w' : World) (h1 : a' = frLdb vb sq mk q Ls.length cp lo gb lb rb u4 u5 u9 u10 u63 u64 u65 u66 u67 u68 u69 u70 u71 u72 u73 u74 u75 u76 u77 u78 u79 u80 u81 u82 u83 u84 u85 u86 (upd1 gs 97 va)) h2 (h3 : laysLdb sq mk lo gb rb 10 va w') h4 => hQ.out a' w' ⟨va, h1, h2, h3, h4⟩
            have r9 : gs 96 = .pointer (some ⟨rb, 0, none⟩) := hR 9 (hdeps ⟨9, .data⟩ (by simp) rfl)
            unfold frLdb
            go_wp2_with fail
            exact HQ _ (.pointer (some ⟨rb, 1, none⟩)) _ (by simp only [frLdb, upd1, r9, Nat.reduceEqDiff, reduceIte]) trivial rfl hC
          · have HQ := fun (a' : Act) (va : Value) (w' : World) (h1 : a' = frLdb vb sq mk q Ls.length cp lo gb lb rb u4 u5 u9 u10 u63 u64 u65 u66 u67 u68 u69 u70 u71 u72 u73 u74 u75 u76 u77 u78 u79 u80 u81 u82 u83 u84 u85 u86 (upd1 gs 1011 va)) h2 (h3 : laysLdb sq mk lo gb rb 11 va w') h4 => hQ.out a' w' ⟨va, h1, h2, h3, h4⟩
            have r4 : gs 91 = .int .i64 sq := hR 4 (hdeps ⟨4, .data⟩ (by simp) rfl)
            have r10 : gs 97 = .pointer (some ⟨rb, 1, none⟩) := hR 10 (hdeps ⟨10, .data⟩ (by simp) rfl)
            have b0 := hC.2
            have ff := free_of_heap b0
            have lw1 := lt_of_heap b0
            generalize (if L 11 = true then (sq : Int) else 0) = zz at b0
            generalize (if L 14 = true then mk else noneS) = zm at b0
            generalize (if L 17 = true then (lo : Int) else 0) = zo at b0
            obtain ⟨y0, y1, y2, y3, y4⟩ := cell5 b0
            unfold frLdb
            go_wp2_with fail
            exact HQ _ undef _ (by simp only [frLdb, upd1, r4, r10, Nat.reduceEqDiff, reduceIte]) trivial trivial (stL.put1 hC)
          · have HQ := fun (a' : Act) (va : Value) (w' : World) (h1 : a' = frLdb vb sq mk q Ls.length cp lo gb lb rb u4 u5 u9 u10 u63 u64 u65 u66 u67 u68 u69 u70 u71 u72 u73 u74 u75 u76 u77 u78 u79 u80 u81 u82 u83 u84 u85 u86 (upd1 gs 98 va)) h2 (h3 : laysLdb sq mk lo gb rb 12 va w') h4 => hQ.out a' w' ⟨va, h1, h2, h3, h4⟩
            have r1 : gs 88 = .pointer (some ⟨rb, 0, none⟩) := hR 1 (hdeps ⟨1, .data⟩ (by simp) rfl)
            unfold frLdb
            go_wp2_with fail
            exact HQ _ (.pointer (some ⟨rb, 0, none⟩)) _ (by simp only [frLdb, upd1, r1, Nat.reduceEqDiff, reduceIte]) trivial rfl hC
          · have HQ := fun (a' : Act) (va : Value) (w' : World) (h1 : a' = frLdb vb sq mk q Ls.length cp lo gb lb rb u4 u5 u9 u10 u63 u64 u65 u66 u67 u68 u69 u70 u71 u72 u73 u74 u75 u76 u77 u78 u79 u80 u81 u82 u83 u84 u85 u86 (upd1 gs 99 va)) h2 (h3 : laysLdb sq mk lo gb rb 13 va w') h4 => hQ.out a' w' ⟨va, h1, h2, h3, h4⟩
            have r12 : gs 98 = .pointer (some ⟨rb, 0, none⟩) := hR 12 (hdeps ⟨12, .data⟩ (by simp) rfl)
            unfold frLdb
            go_wp2_with fail
            exact HQ _ (.pointer (some ⟨rb, 2, none⟩)) _ (by simp only [frLdb, upd1, r12, Nat.reduceEqDiff, reduceIte]) trivial rfl hC
          · have HQ := fun (a' : Act) (va : Value) (w' : World) (h1 : a' = frLdb vb sq mk q Ls.length cp lo gb lb rb u4 u5 u9 u10 u63 u64 u65 u66 u67 u68 u69 u70 u71 u72 u73 u74 u75 u76 u77 u78 u79 u80 u81 u82 u83 u84 u85 u86 (upd1 gs 1014 va)) h2 (h3 : laysLdb sq mk lo gb rb 14 va w') h4 => hQ.out a' w' ⟨va, h1, h2, h3, h4⟩
            have r6 : gs 93 = .string mk := hR 6 (hdeps ⟨6, .data⟩ (by simp) rfl)
            have r13 : gs 99 = .pointer (some ⟨rb, 2, none⟩) := hR 13 (hdeps ⟨13, .data⟩ (by simp) rfl)
            have b0 := hC.2
            have ff := free_of_heap b0
            have lw1 := lt_of_heap b0
            generalize (if L 11 = true then (sq : Int) else 0) = zz at b0
            generalize (if L 14 = true then mk else noneS) = zm at b0
            generalize (if L 17 = true then (lo : Int) else 0) = zo at b0
            obtain ⟨y0, y1, y2, y3, y4⟩ := cell5 b0
            unfold frLdb
            go_wp2_with fail
            exact HQ _ undef _ (by simp only [frLdb, upd1, r6, r13, Nat.reduceEqDiff, reduceIte]) trivial trivial (stL.put2 hC)
          · have HQ := fun (a' : Act) (va : Value) (w' : World) (h1 : a' = frLdb vb sq mk q Ls.length cp lo gb lb rb u4 u5 u9 u10 u63 u64 u65 u66 u67 u68 u69 u70 u71 u72 u73 u74 u75 u76 u77 u78 u79 u80 u81 u82 u83 u84 u85 u86 (upd1 gs 100 va)) h2 (h3 : laysLdb sq mk lo gb rb 15 va w') h4 => hQ.out a' w' ⟨va, h1, h2, h3, h4⟩
            have r2 : gs 89 = .pointer (some ⟨rb, 0, none⟩) := hR 2 (hdeps ⟨2, .data⟩ (by simp) rfl)
            unfold frLdb
            go_wp2_with fail
            exact HQ _ (.pointer (some ⟨rb, 0, none⟩)) _ (by simp only [frLdb, upd1, r2, Nat.reduceEqDiff, reduceIte]) trivial rfl hC
          · have HQ := fun (a' : Act) (va : Value) (w' : World) (h1 : a' = frLdb vb sq mk q Ls.length cp lo gb lb rb u4 u5 u9 u10 u63 u64 u65 u66 u67 u68 u69 u70 u71 u72 u73 u74 u75 u76 u77 u78 u79 u80 u81 u82 u83 u84 u85 u86 (upd1 gs 101 va)) h2 (h3 : laysLdb sq mk lo gb rb 16 va w') h4 => hQ.out a' w' ⟨va, h1, h2, h3, h4⟩
            have r15 : gs 100 = .pointer (some ⟨rb, 0, none⟩) := hR 15 (hdeps ⟨15, .data⟩ (by simp) rfl)
            unfold frLdb
            go_wp2_with fail
            exact HQ _ (.pointer (some ⟨rb, 4, none⟩)) _ (by simp only [frLdb, upd1, r15, Nat.reduceEqDiff, reduceIte]) trivial rfl hC
          · have HQ := fun (a' : Act) (va : Value) (w' : World) (h1 : a' = frLdb vb sq mk q Ls.length cp lo gb lb rb u4 u5 u9 u10 u63 u64 u65 u66 u67 u68 u69 u70 u71 u72 u73 u74 u75 u76 u77 u78 u79 u80 u81 u82 u83 u84 u85 u86 (upd1 gs 1017 va)) h2 (h3 : laysLdb sq mk lo gb rb 17 va w') h4 => hQ.out a' w' ⟨va, h1, h2, h3, h4⟩
            have r8 : gs 95 = .int .i64 lo := hR 8 (hdeps ⟨8, .data⟩ (by simp) rfl)
            have r16 : gs 101 = .pointer (some ⟨rb, 4, none⟩) := hR 16 (hdeps ⟨16, .data⟩ (by simp) rfl)
            have b0 := hC.2
            have ff := free_of_heap b0
            have lw1 := lt_of_heap b0
            generalize (if L 11 = true then (sq : Int) else 0) = zz at b0
            generalize (if L 14 = true then mk else noneS) = zm at b0
            generalize (if L 17 = true then (lo : Int) else 0) = zo at b0
            obtain ⟨y0, y1, y2, y3, y4⟩ := cell5 b0
            unfold frLdb
            go_wp2_with fail
            exact HQ _ undef _ (by simp only [frLdb, upd1, r8, r16, Nat.reduceEqDiff, reduceIte]) trivial trivial (stL.put3 hC)
        intro L13 g13 w13 hall hR hC
        have HC := hC
        rw [hall 11 (by decide), hall 14 (by decide), hall 17 (by decide)] at HC
        have BLL := Lib.hid ((HC.1.block lb (lt_of_heap LB.out) (fun e => NE.out.1 (Option.some.inj e))).trans LB.out)
        have RB9 := Lib.hid HC
        clear hC hall hR HC
        have zl : w13.cell? ⟨lb, 0, none⟩ = some (.pointer (some ⟨rb, 0, none⟩)) := by rw [cell_in, BLL.out]; rfl
        have lw := lt_of_heap BLL.out
        unfold frLdb
        go_wp2_with fail
        go_ret2

        obtain ⟨h9, hb9⟩ := RB9.out
        rw [if_pos rfl, if_pos rfl, if_pos rfl] at hb9
        refine ⟨rb, rfl, D, ⟨tm, ?_, TMM.out.rb_, TMM.out.tm_, ?_, hsq, hlo⟩, STT.out.trans (.of_grown h9 (fun j hj => by cases hj; exact TMM.out.rb_))⟩
        · refine ⟨hb9, TMM.out.tab.nil, fun c hc => (TMM.out.tab.map c hc).kept h9 (fun e => ?_)⟩
          injection e with e
          subst e
          have := TMM.out.tab
          rw [hc] at this
          exact this.ne rfl
        · exact fun i hi => Nat.lt_of_lt_of_le (TMM.out.lt i hi) h9.size
end Go.Proofs.YtafdigdopeahdaaGreatDoor
namespace Go.Proofs.YtafdigdopeahdaaGreatDoor
open Go.RowKit Go.Shelf

def fedP : Ev := ⟨1, ⟨#[97, 110, 110]⟩, ⟨#[116]⟩, ⟨#[114]⟩, ⟨#[118]⟩⟩
def fedG : Ev := ⟨3, ⟨#[97, 110, 110]⟩, ⟨#[]⟩, ⟨#[]⟩, ⟨#[]⟩⟩
theorem fedP_right : rightE okV fedP = true := by decide +kernel
theorem fedG_right : rightE okV fedG = true := by decide +kernel
def fedMany : ByteArray → Nat := toldMany (fun _ => 0) (fun _ => false) fedP
def fedHas : ByteArray → Bool := toldHas (fun _ => false) fedP
theorem fedP_told (sec : ByteArray) : ∃ body, toldR sec (fun _ => 0) (fun _ => false) [] fedP = ⟨1, ⟨#[97, 110, 110]⟩, 1, noneS, body⟩ ∧ body.size = 29 := by
  refine ⟨_, rfl, ?_⟩
  show (mkS (sealB _ _ _ _)).size = 29
  rw [mkS_size, sealB_length]
  rfl
theorem fed_more : tellX (fun _ => false) fedP = 0 ∧ tellX fedHas fedG = 0 ∧ fedMany fedP.subject = 1 ∧ fedHas fedP.subject = true := by
  refine ⟨?_, ?_, ?_, ?_⟩
  · unfold tellX; rw [fedP_right]; rfl
  · unfold tellX; rw [fedG_right]; rfl
  · rfl
  · rfl
set_option maxRecDepth 100000 in
set_option maxHeartbeats 4000000 in
theorem fed_any (w : World) (hG : Glob w none0) : Calls Tryz.prog 8 #[] w (Res true w) := by
  have GG := Lib.hid hG
  clear hG
  have SN := vnew_in ⟨#[48, 49, 50, 51, 52, 53, 54, 55, 56, 57, 97, 98, 99, 100, 101, 102]⟩ w rfl
  go_enter Tryz.func8, Tryz.ntmps8
  go_wp2_with fail
  refine SN.mono ?_
  rintro _ w1 ⟨vb, V, rfl, hv, hs⟩
  have V1 := Lib.hid hv
  have S1 := Lib.hid hs
  clear hv hs SN
  go_wp2_with fail
  refine (fnew_any vb w1).mono ?_
  rintro _ w2 ⟨fb, R, rfl, hf, hs2, hx⟩
  have F2 := Lib.hid hf
  have V2 := Lib.hid (V1.out.ext hx)
  have AP := Lib.hid (show apart V R from fun i h1 h2 => by have := V1.out.lt i h1; have := hs2.new h2; omega)
  have S2 := Lib.hid ((S1.out.trans (.of_ext V hx)).more (F' := fun i => V i ∨ R i) (fun i hi => by
    rcases hi with hi | hi
    · exact .inl hi
    · have h9 := hs2.new hi; have := S1.out.size; exact .inr ⟨by omega, h9.2⟩))
  clear hf hs2 hx V1 S1
  have G2 := Lib.hid (GG.out.step S2.out)
  have HD := fhead_any w2 R fb vb [] F2.out G2.out.rounds
  rw [headR_nil] at HD
  unfold noneS at HD
  go_wp2_with fail
  refine HD.mono ?_
  rintro _ w3 ⟨rfl, hx⟩
  have F3 := Lib.hid ((F2.out.ext hx).ext (ext_alloc (.cells (evV fedP) 40) (ext_refl w3)))
  have V3 := Lib.hid ((V2.out.ext hx).ext (ext_alloc (.cells (evV fedP) 40) (ext_refl w3)))
  have G3 := Lib.hid ((G2.out.ext hx).ext (ext_alloc (.cells (evV fedP) 40) (ext_refl w3)))
  have S3 := Lib.hid (S2.out.trans ((step.of_ext (fun i => V i ∨ R i) hx).trans (.alloc w3 (.cells (evV fedP) 40) _)))
  have E3 := Lib.hid (heap_alloc_at w3 (.cells (evV fedP) 40))
  have EN := Lib.hid (show ¬ (V w3.heap.size ∨ R w3.heap.size) from fun h => by have h2 := (ext_iff.1 hx).size; rcases h with h | h; have := V2.out.lt _ h; omega; have := F2.out.lt _ h; omega)
  clear hx F2 V2 G2 S2 HD
  have TL := (ftell_any fedP _ V R fb vb 0 _ _ _ [] V3.out F3.out AP.out G3.out (by decide) (by decide) (by decide) (by decide) (by decide) (by decide)).mono fun r w' h => told_all h
  rw [fed_more.1, if_pos rfl, if_pos rfl, if_pos rfl, if_pos rfl, if_pos rfl] at TL
  obtain ⟨body, hb1, hb2⟩ := fedP_told ⟨#[48, 49, 50, 51, 52, 53, 54, 55, 56, 57, 97, 98, 99, 100, 101, 102]⟩
  have IT := Lib.hid (toldR_is ⟨#[48, 49, 50, 51, 52, 53, 54, 55, 56, 57, 97, 98, 99, 100, 101, 102]⟩ (fun _ => 0) (fun _ => false) [] fedP_right (fun h => by cases h))
  rw [hb1] at TL IT
  rw [show toldMany (fun _ => 0) (fun _ => false) fedP = fedMany from rfl, show toldHas (fun _ => false) fedP = fedHas from rfl, List.nil_append] at TL
  clear hb1
  unfold recV evV fedP noneS at TL
  unfold evV fedP at E3 F3 V3 G3 S3
  dsimp only at TL E3 F3 V3 G3 S3
  have hbz : (body.size : Int) = 29 := by omega
  have HB2 := Lib.hid hb2
  clear hb2
  go_wp2_with fail
  generalize w3.alloc (.cells #[.int .i64 1, .string ⟨#[97, 110, 110]⟩, .string ⟨#[116]⟩, .string ⟨#[114]⟩, .string ⟨#[118]⟩] 40) = w4 at E3 F3 V3 G3 S3 TL ⊢
  obtain ⟨e0, e1, e2, e3, e4⟩ := ev_cells E3.out
  have le := lt_of_heap E3.out
  go_wp2_with fail
  refine TL.mono ?_
  rintro _ w5 ⟨rfl, R', hv5, hf5, hs5, hR5⟩
  have V5 := Lib.hid (hv5.ext (ext_alloc (.cells #[.int .i64 1, .string ⟨#[97, 110, 110]⟩, .int .i64 1, .string ⟨#[0, 0, 0, 0, 0, 0, 0, 0, 0, 0, 0, 0, 0, 0, 0, 0]⟩, .string body] 36) (ext_refl w5)))
  have F5 := Lib.hid (hf5.ext (ext_alloc (.cells #[.int .i64 1, .string ⟨#[97, 110, 110]⟩, .int .i64 1, .string ⟨#[0, 0, 0, 0, 0, 0, 0, 0, 0, 0, 0, 0, 0, 0, 0, 0]⟩, .string body] 36) (ext_refl w5)))
  have hst := hs5.trans (.alloc w5 (.cells #[.int .i64 1, .string ⟨#[97, 110, 110]⟩, .int .i64 1, .string ⟨#[0, 0, 0, 0, 0, 0, 0, 0, 0, 0, 0, 0, 0, 0, 0, 0]⟩, .string body] 36) _)
  have G5 := Lib.hid (G3.out.step hst)
  have S5 := Lib.hid (S3.out.trans hst)
  have E5 := Lib.hid ((hst.keep (lt_of_heap E3.out) EN.out).1.trans E3.out)
  have AP5 := Lib.hid (show apart V R' from fun i h1 h2 => (hR5 i h2).elim (AP.out i h1) (fun h => by have := V3.out.lt i h1; omega))
  have P5 := Lib.hid (heap_alloc_at w5 (.cells #[.int .i64 1, .string ⟨#[97, 110, 110]⟩, .int .i64 1, .string ⟨#[0, 0, 0, 0, 0, 0, 0, 0, 0, 0, 0, 0, 0, 0, 0, 0]⟩, .string body] 36))
  have PN := Lib.hid (show ¬ (V w5.heap.size ∨ R' w5.heap.size) from fun h => by rcases h with h | h; exact Nat.lt_irrefl _ (hv5.lt _ h); exact Nat.lt_irrefl _ (hf5.lt _ h))
  have EN5 := Lib.hid (hst.keep (lt_of_heap E3.out) EN.out).2.2
  have hl5 : w3.heap.size < w5.heap.size := Nat.lt_of_lt_of_le (lt_of_heap E3.out) hs5.size
  have ce := ev_cells (((hs5.keep (lt_of_heap E3.out) EN.out).1).trans E3.out)
  clear hv5 hf5 hs5 hR5 hst TL e0 e1 e2 e3 e4 le E3 F3 V3 G3 S3 AP EN
  obtain ⟨e0, e1, e2, e3, e4⟩ := ce
  go_wp2_with fail
  generalize w5.alloc (.cells #[.int .i64 1, .string ⟨#[97, 110, 110]⟩, .int .i64 1, .string ⟨#[0, 0, 0, 0, 0, 0, 0, 0, 0, 0, 0, 0, 0, 0, 0, 0]⟩, .string body] 36) = w6 at V5 F5 G5 S5 E5 P5 ⊢
  have LST : lostR fedMany fedHas ⟨1, ⟨#[97, 110, 110]⟩, 1, noneS, body⟩ = false := rfl
  have OP := fopen_any fedP _ w6 V vb 2 _ _ _ V5.out (G5.out.sub (fun i h => .inl h)) IT.out (show (1 : Int) ≤ ((1 : Nat) : Int) by decide)
  unfold OpenPost openV at OP
  rw [LST, if_neg (by simp), if_neg (by simp)] at OP
  clear LST
  unfold recV evV fedP noneS at OP
  dsimp only at OP
  refine OP.mono ?_
  rintro _ w7 ⟨rfl, hx⟩
  have h87 := (ext_iff.1 hx)
  have V7 := Lib.hid ((V5.out.ext hx).ext (ext_alloc (.cells #[.int .i64 1, .string ⟨#[97, 110, 110]⟩, .string ⟨#[116]⟩, .string ⟨#[114]⟩, .string ⟨#[118]⟩] 40) (ext_refl w7)))
  have F7 := Lib.hid ((F5.out.ext hx).ext (ext_alloc (.cells #[.int .i64 1, .string ⟨#[97, 110, 110]⟩, .string ⟨#[116]⟩, .string ⟨#[114]⟩, .string ⟨#[118]⟩] 40) (ext_refl w7)))
  have hst := (step.of_ext (fun i => V i ∨ R' i) hx).trans (.alloc w7 (.cells #[.int .i64 1, .string ⟨#[97, 110, 110]⟩, .string ⟨#[116]⟩, .string ⟨#[114]⟩, .string ⟨#[118]⟩] 40) _)
  have G7 := Lib.hid (G5.out.step hst)
  have S7 := Lib.hid (S5.out.trans hst)
  have P7 := Lib.hid ((hst.keep (lt_of_heap P5.out) PN.out).1.trans P5.out)
  have ce := ev_cells ((h87.block _ (lt_of_heap E5.out)).trans E5.out)
  have le7 : w3.heap.size < w7.heap.size := Nat.lt_of_lt_of_le (lt_of_heap E5.out) h87.size
  clear hx h87 hst V5 F5 G5 S5 P5 E5 OP e0 e1 e2 e3 e4
  obtain ⟨e0, e1, e2, e3, e4⟩ := ce
  have TL := (ftell_any fedG _ V R' fb vb 2 _ fedMany fedHas _ V7.out F7.out AP5.out G7.out (by decide) (by decide) (by decide) (by decide) (by decide) (by show 1 < 100; decide)).mono fun r w' h => told_all h
  rw [fed_more.2.1, if_pos rfl, if_pos rfl, if_pos rfl, if_pos rfl, if_pos rfl] at TL
  generalize toldR _ fedMany fedHas _ fedG = r2 at TL
  obtain ⟨q2, u2, g2, p2, b2⟩ := r2
  have hm2 : toldMany fedMany fedHas fedG = fedMany := rfl
  rw [hm2] at TL
  clear hm2
  have HLST : Hid (lostR fedMany (toldHas fedHas fedG) ⟨1, ⟨#[97, 110, 110]⟩, 1, noneS, body⟩ = true) := Lib.hid rfl
  generalize toldHas fedHas fedG = has3 at TL HLST
  unfold recV evV fedG at TL
  dsimp only at TL
  go_wp2_with fail
  refine TL.mono ?_
  rintro _ w8 ⟨rfl, R3, hv8, hf8, hs8, hR8⟩
  have hst := hs8.trans (.alloc w8 (.cells #[.int .i64 q2, .string u2, .int .i64 g2, .string p2, .string b2] 36) _)
  have V8 := Lib.hid (hv8.ext (ext_alloc (.cells #[.int .i64 q2, .string u2, .int .i64 g2, .string p2, .string b2] 36) (ext_refl w8)))
  have G8 := Lib.hid (G7.out.step hst)
  have S8 := Lib.hid (S7.out.trans hst)
  have hk8 := hs8.keep (lt_of_heap P7.out) (by
    intro h
    rcases h with h | h
    · exact PN.out (.inl h)
    · exact PN.out (.inr h))
  have cp := rec_cells (r := ⟨1, ⟨#[97, 110, 110]⟩, 1, noneS, body⟩) (hk8.1.trans P7.out)
  have lp8 : w5.heap.size < w8.heap.size := hk8.2.1
  clear hst hv8 hf8 hs8 hR8 hk8 TL V7 F7 G7 S7 P7 e0 e1 e2 e3 e4 le7
  obtain ⟨p0', p1', p2', p3', p4'⟩ := cp
  unfold noneS at p3'
  dsimp only at p0' p1' p2' p3' p4'
  go_wp2_with fail
  generalize w8.alloc (.cells #[.int .i64 q2, .string u2, .int .i64 g2, .string p2, .string b2] 36) = w9 at V8 G8 S8 ⊢
  have OP := fopen_any fedP _ w9 V vb 4 _ _ _ V8.out (G8.out.sub (fun i h => .inl h)) IT.out (show (1 : Int) ≤ ((1 : Nat) : Int) by decide)
  unfold OpenPost openV at OP
  unfold noneS at OP HLST
  rw [HLST.out, if_pos rfl, if_pos rfl] at OP
  unfold recV evV zeroE at OP
  dsimp only at OP
  refine OP.mono ?_
  rintro _ w10 ⟨rfl, hx⟩
  have S9 := Lib.hid (S8.out.trans (.of_ext _ hx))
  have G9 := Lib.hid (G8.out.ext hx)
  clear hx OP
  go_wp2_with fail
  refine (tell_any (errV 8) (.no 8) w10 G9.out.err).mono ?_
  rintro _ w11 ⟨rfl, hx⟩
  have X := Lib.hid (S9.out.trans (.of_ext _ hx)).ext
  clear hx
  go_wp2_with fail
  go_ret
  exact ⟨rfl, X.out⟩
end Go.Proofs.YtafdigdopeahdaaGreatDoor
namespace Go.Proofs.YtafdigdopeahdaaGreatDoor

theorem few_sizes {l : List Ev} (h : fewB l = true) : l.length ≤ 30 ∧ ∀ e ∈ l, e.subject.size ≤ 1048576 ∧ e.table.size ≤ 1048576 ∧ e.row.size ≤ 1048576 ∧ e.value.size ≤ 1048576 := by
  unfold fewB at h
  simp only [Bool.and_eq_true, decide_eq_true_eq, Bool.not_eq_true', List.any_eq_false] at h
  refine ⟨by omega, fun e he => ?_⟩
  have := h.2 e he
  unfold longE at this
  simp only [Bool.or_eq_true, decide_eq_true_eq, not_or, Int.not_lt] at this
  omega
theorem run1_prefix (sec : ByteArray) (R : RunM) (e : Ev) : ∃ t, (run1 sec R e).S.L = R.S.L ++ t := by
  unfold run1
  split
  · rename_i hx
    show ∃ t, (doS sec R.S e).L = _
    rw [doS_yes hx]
    exact ⟨_, rfl⟩
  · exact ⟨[], by simp⟩
theorem runs_prefix (sec : ByteArray) : ∀ (m : List Ev) (R : RunM), ∃ t, (m.foldl (run1 sec) R).S.L = R.S.L ++ t
  | [], _ => ⟨[], by simp⟩
  | e :: m, R => by
    obtain ⟨t1, h1⟩ := run1_prefix sec R e
    obtain ⟨t2, h2⟩ := runs_prefix sec m (run1 sec R e)
    exact ⟨t1 ++ t2, by rw [List.foldl_cons, h2, h1, List.append_assoc]⟩
theorem run_prefix (sec : ByteArray) (l m : List Ev) : ∃ t, (runM sec (l ++ m)).S.L = (runM sec l).S.L ++ t := by
  unfold runM
  rw [List.foldl_append]
  exact runs_prefix sec m _
/-- How long a told record's body is. -/
theorem isTold.long {sec : ByteArray} {r : Rec} {e : Ev} (h : isTold sec r e) : r.body.size = if e.kind = 3 then (printL e).length else (printL e).length + 16 := by
  have hl : (mkT (printL e)).size = (printL e).length := by show (printL e).toArray.size = _; rw [List.size_toArray]
  by_cases hk : e.kind = 3
  · rw [(h.gone hk).2, if_pos hk, hl]
  · rw [(h.kept hk).2, if_neg hk, mkS_size, sealB_length, hl]; omega
end Go.Proofs.YtafdigdopeahdaaGreatDoor
namespace Go.Proofs.YtafdigdopeahdaaGreatDoor
open Go.RowKit Go.Shelf

theorem tabN_right {ok : List Ev} (h : Acc ok) : ∀ k c, c ∈ tabN ok k → rightE okV (putE c) = true := by
  intro k
  induction k with
  | zero => intro c hc; cases hc
  | succ k ih =>
    intro c hc
    cases he : ok[k]? with
    | none =>
      refine ih c ?_
      unfold tabN at *
      rw [List.take_add_one, he] at hc
      simpa using hc
    | some e =>
      rw [tabN_succ he] at hc
      rcases stepT_mem hc with h1 | ⟨h1, h2⟩
      · exact ih c h1
      · have := (h k e he).right
        subst h2
        obtain ⟨e0, e1, e2, e3, e4⟩ := e
        dsimp only at h1
        subst h1
        exact this
theorem recsAt_tk {w : World} {q : Option Addr} {l : List Rec} (h : recsAt w q l) (k : Nat) : recsAt w q (l.take k) := by
  rcases h with h | ⟨g, o, hq, hg, hc⟩
  · exact .inl (by rw [h]; exact List.take_nil)
  · exact .inr ⟨g, o, hq, hg, fun j e hj => hc j e (by rw [List.getElem?_take] at hj; split at hj; exact hj; cases hj)⟩
theorem ownsRl_cp {w : World} {base n c : Nat} {q : Option Addr} {l : List Rec} (h : ownsRl w base (.slice q n c) l) : n ≤ c ∧ n = l.length := by
  obtain ⟨_, ⟨h1, h2⟩ | ⟨g, cap', cur, h1, _, _, h2, _⟩⟩ := h
  · injection h1 with _ h1 h3; subst h1 h3; exact ⟨Nat.le_refl _, h2.symm⟩
  · injection h1 with _ h1 h3; subst h1 h3; exact ⟨h2, rfl⟩
/-- A source, a reader, and what was saved of it. -/
structure svIn (w0 w : World) (V F D : Blk) (sb vb rb n m : Nat) (S : SrcM) (U : RdM) (jb : Nat) (q : Option Addr) (c : Nat) (Ls : List Cell) : Prop where
  two : twoIn w0 w V F D sb vb rb n m S U
  box : w.heap[jb]? = some (.cells #[.int .i64 U.seq, .string U.mark, .slice q Ls.length c, .int .i64 U.lost] 70 (0, 0))
  boff : ¬ F jb ∧ ¬ D jb
  rows : cellsIn w q Ls
  roff : ∀ a, q = some a → ¬ F a.block ∧ ¬ D a.block ∧ a.block < w.heap.size
section
variable {w0 w w' : World} {V F F' D D' : Blk} {sb vb rb n n' m : Nat} {S S' : SrcM} {U : RdM} {jb : Nat} {q : Option Addr} {c : Nat} {Ls : List Cell}
theorem svIn.ext (h : svIn w0 w V F D sb vb rb n m S U jb q c Ls) (hx : ∃ x, w' = Go.Proofs.YtafdigdopeahdaaGreatDoor.ext w x) : svIn w0 w' V F D sb vb rb n m S U jb q c Ls :=
  have hb := ext_iff.1 hx
  ⟨h.two.ext hx, (hb.block _ (lt_of_heap h.box)).trans h.box, h.boff, cellsIn_x h.rows hx, fun a ha => ⟨(h.roff a ha).1, (h.roff a ha).2.1, Nat.lt_of_lt_of_le (h.roff a ha).2.2 hb.size⟩⟩
theorem svIn.turn (h : svIn w0 w V F D sb vb rb n m S U jb q c Ls) (hs : srcIn w' V F' sb vb n' secS S') (g : step w w' F F') : svIn w0 w' V F' D sb vb rb n' m S' U jb q c Ls := by
  obtain ⟨k1, _, k3⟩ := g.keep (lt_of_heap h.box) h.boff.1
  refine ⟨h.two.turn hs g, k1.trans h.box, ⟨k3, h.boff.2⟩, cellsIn_same h.rows (fun a ha => (g.keep (h.roff a ha).2.2 (h.roff a ha).1).1) g.size, fun a ha => ?_⟩
  obtain ⟨_, j2, j3⟩ := g.keep (h.roff a ha).2.2 (h.roff a ha).1
  exact ⟨j3, (h.roff a ha).2.1, j2⟩
theorem svIn.mono (h : svIn w0 w V F D sb vb rb n m S U jb q c Ls) (hn : n ≤ n') : svIn w0 w V F D sb vb rb n' m S U jb q c Ls := ⟨h.two.mono hn (Nat.le_refl _), h.box, h.boff, h.rows, h.roff⟩
end
/-- A source, and two readers of it. -/
structure goIn (w0 w : World) (V F D E : Blk) (sb vb rb xb n c : Nat) (S : SrcM) (U X : RdM) (q : Option Addr) : Prop where
  st : step w0 w none0 (fun i => (F i ∨ D i) ∨ E i)
  src : srcIn w V F sb vb n secS S
  r : rdIn w D rb vb c U
  x : rdIn w E xb vb c X
  a1 : apart F D
  a2 : apart F E
  a3 : apart D E
  recs : recsAt w q S.L
  offq : ∀ a, q = some a → ¬ D a.block ∧ ¬ E a.block ∧ a.block < w.heap.size
section
variable {w0 w w' : World} {V F D D' E E' : Blk} {sb vb rb xb n c c' : Nat} {S : SrcM} {U U' X X' : RdM} {q : Option Addr}
theorem goIn.ext (h : goIn w0 w V F D E sb vb rb xb n c S U X q) (hx : ∃ x, w' = Go.Proofs.YtafdigdopeahdaaGreatDoor.ext w x) : goIn w0 w' V F D E sb vb rb xb n c S U X q :=
  have hb := ext_iff.1 hx
  ⟨h.st.trans (.of_ext _ hx), h.src.ext hx, h.r.ext hx, h.x.ext hx, h.a1, h.a2, h.a3, recsAt_of h.recs (fun k hk => hb.block k hk) hb.size, fun a ha => ⟨(h.offq a ha).1, (h.offq a ha).2.1, Nat.lt_of_lt_of_le (h.offq a ha).2.2 hb.size⟩⟩
theorem goIn.both {w1 : World} (h : goIn w0 w V F D E sb vb rb xb n c S U X q) (hr : rdIn w1 D' rb vb c' U') (g : step w w1 D D') (hx : rdIn w' E' xb vb c' X') (g' : step w1 w' E E') : goIn w0 w' V F D' E' sb vb rb xb n c' S U' X' q := by
  have b1 := g.apart h.a1.symm h.src.lt
  have b3 := g.apart h.a3 h.x.lt
  have s1 := h.src.step g h.a1.symm
  have c2 := g'.apart h.a2.symm s1.lt
  have c3 := g'.apart b3.symm hr.lt
  refine ⟨?_, s1.step g' h.a2.symm, hr.step g' b3.symm, hx, b1.symm, c2.symm, c3.symm, ?_, fun a ha => ?_⟩
  · refine (h.st.trans ((g.lift (A := fun i => (F i ∨ D i) ∨ E i) (fun _ hi => .inl (.inr hi))).trans (g'.lift (A := fun i => ((F i ∨ D i) ∨ E i) ∨ D' i) (fun _ hi => .inl (.inr hi))))).more (fun i hi => .inl ?_)
    rcases hi with (h1 | h1) | h1
    · exact .inl (.inl (.inl (.inl h1)))
    · exact .inl (.inr h1)
    · exact .inr h1
  · have r1 := recsAt_same h.recs (fun a ha => g.block _ (h.offq a ha).2.2 (h.offq a ha).1) g.size
    exact recsAt_same r1 (fun a ha => g'.block _ (Nat.lt_of_lt_of_le (h.offq a ha).2.2 g.size) (h.offq a ha).2.1) g'.size
  · obtain ⟨_, j2, j3⟩ := g.keep (h.offq a ha).2.2 (h.offq a ha).1
    obtain ⟨_, k2, k3⟩ := g'.keep j2 (h.offq a ha).2.1
    exact ⟨j3, k3, k2⟩
end
theorem foll_fold_len (many : ByteArray → Nat) (has : ByteArray → Bool) : ∀ (l : List (Rec × Ev)) (R : RdM), (l.foldl (fun R p => readM many has R p.1 p.2) R).T.length ≤ R.T.length + l.length
  | [], _ => Nat.le_refl _
  | p :: l, R => by
    have h1 := foll_fold_len many has l (readM many has R p.1 p.2)
    have h2 : (readM many has R p.1 p.2).T.length ≤ R.T.length + 1 := by
      unfold readM
      dsimp only
      split
      · omega
      · exact stepT_len _ _
    rw [List.foldl_cons, List.length_cons]
    omega
theorem goOn_len (R : RunM) (k : Nat) (U : RdM) (i : Nat) : (goOn R k U i).T.length ≤ U.T.length + i := by
  unfold goOn follN
  have := foll_fold_len R.S.many R.S.has (((R.S.L.drop k).zip (R.ok.drop k)).take i) U
  have h2 : (((R.S.L.drop k).zip (R.ok.drop k)).take i).length ≤ i := by rw [List.length_take]; omega
  omega
/-- A new reader, in a value. -/
def svR (W : World) (vb n : Nat) (U : RdM) (mk : Nat → Value) (v : Value) (w : World) : Prop := ∃ rb D, v = mk rb ∧ rdIn w D rb vb n U ∧ step W w none0 D
theorem svR.kept {W w w' : World} {vb n : Nat} {U : RdM} {mk : Nat → Value} {v : Value} (h : svR W vb n U mk v w) (hx : ∃ x, w' = ext w x) : svR W vb n U mk v w' := by
  obtain ⟨rb, D, h1, h2, h3⟩ := h
  exact ⟨rb, D, h1, h2.ext hx, h3.trans (.of_ext D hx)⟩
def frS10 (q1 : Option Addr) (ll : Nat) (cp1 : Nat) (q2 : Option Addr) (lm : Nat) (cp2 : Nat) (ai : Int) (sb : Nat) (vo : Value) (vr : Value) (q4 : Option Addr) (nL : Nat) (c4 : Nat) (k : Nat) (g : Nat → Value) : Act := { tmps := #[.slice q1 ll cp1, .slice q2 lm cp2, .int .i64 ai, undef, undef, undef, .bool false, .pointer (some ⟨sb, 0, none⟩), vo, vr, .slice q4 nL c4, .int .i64 k, g 12, g 13, undef, undef, undef, undef, undef, undef, undef, undef, undef, .slice q1 ll cp1, .bool true, .bool false, .bool false, .slice q2 lm cp2, .bool true, .bool false, .bool false, .bool true, .bool false, .bool false, .bool true, .bool false, .bool false, .tuple #[.pointer (some ⟨sb, 0, none⟩), vo, vr], .slice q1 ll cp1, .tuple #[.pointer (some ⟨sb, 0, none⟩), vo, vr], .pointer (some ⟨sb, 0, none⟩), vo, vr, .pointer (some ⟨sb, 0, none⟩), .bool false, .pointer (some ⟨sb, 0, none⟩), .slice q4 nL c4, .int .i64 ai, .slice q4 nL c4, .int .i64 nL, .int .i64 (nL + 1), .int .i64 k, g 52, g 53, g 54, g 55, g 56, g 57, g 58, g 59, g 60, undef, undef, undef, undef, undef, undef, undef, undef, undef, undef, undef, undef, undef, undef, undef, undef, undef, undef, undef, undef, undef, undef, undef, undef, undef, undef, undef, undef, undef, undef, undef, undef, undef, undef, undef, undef, undef, undef, undef, undef, undef, undef, undef, undef, undef, undef, undef, undef, undef, undef, undef, undef, undef, undef, undef, undef, undef, undef, undef, undef, undef, undef, undef, undef, undef, undef, undef, undef, undef, undef, undef, undef, undef, undef, undef, undef, undef, undef, undef, undef, undef, undef, undef, undef, undef, undef, undef, undef, undef, undef, undef, undef, undef, undef], defers := [] }
def dstS10 (i : Nat) : Nat := ([53, 54, 55, 56, 57, 58, 52, 59, 60, 12, 13] : List Nat).getD i (2000 + i)
def laysS10 (sb : Nat) (vb : Nat) (q4 : Option Addr) (nL : Nat) (c4 : Nat) (k : Nat) (U : RdM) (W : World) (nn : Nat) (j : Nat) (v : Value) (w : World) : Prop :=
  match j with
  | 0 => v = .pointer (some ⟨sb, 0, none⟩)
  | 1 => v = .pointer (some ⟨vb, 0, none⟩)
  | 2 => v = .slice q4 nL c4
  | 3 => v = .int .i64 k
  | 4 => v = .slice q4 k c4
  | 5 => svR W vb nn U (fun p => .tuple #[.pointer (some ⟨p, 0, none⟩), .bool true]) v w
  | 6 => svR W vb nn U (fun p => .tuple #[.pointer (some ⟨p, 0, none⟩), .bool true]) v w
  | 7 => svR W vb nn U (fun p => .pointer (some ⟨p, 0, none⟩)) v w
  | 8 => v = .bool true
  | 9 => svR W vb nn U (fun p => .pointer (some ⟨p, 0, none⟩)) v w
  | 10 => v = .bool true
  | _ => True
def frS18 (q1 : Option Addr) (ll : Nat) (cp1 : Nat) (q2 : Option Addr) (lm : Nat) (cp2 : Nat) (ai : Int) (sb : Nat) (vo : Value) (vr : Value) (q4 : Option Addr) (nL : Nat) (c4 : Nat) (k : Nat) (g10 : Nat → Value) (rb : Nat) (jb : Nat) (sq : Nat) (lo : Nat) (mk : ByteArray) (qs : Option Addr) (nS : Nat) (cs : Nat) (u69 : Value) (u70 : Value) (u71 : Value) (u72 : Value) (u73 : Value) (u74 : Value) (u75 : Value) (u76 : Value) (g : Nat → Value) : Act := { tmps := #[.slice q1 ll cp1, .slice q2 lm cp2, .int .i64 ai, undef, undef, undef, .bool false, .pointer (some ⟨sb, 0, none⟩), vo, vr, .slice q4 nL c4, .int .i64 k, .pointer (some ⟨rb, 0, none⟩), .bool true, .pointer (some ⟨jb, 0, none⟩), .int .i64 lm, g 16, g 17, undef, undef, undef, undef, undef, .slice q1 ll cp1, .bool true, .bool false, .bool false, .slice q2 lm cp2, .bool true, .bool false, .bool false, .bool true, .bool false, .bool false, .bool true, .bool false, .bool false, .tuple #[.pointer (some ⟨sb, 0, none⟩), vo, vr], .slice q1 ll cp1, .tuple #[.pointer (some ⟨sb, 0, none⟩), vo, vr], .pointer (some ⟨sb, 0, none⟩), vo, vr, .pointer (some ⟨sb, 0, none⟩), .bool false, .pointer (some ⟨sb, 0, none⟩), .slice q4 nL c4, .int .i64 ai, .slice q4 nL c4, .int .i64 nL, .int .i64 (nL + 1), .int .i64 k, g10 52, g10 53, g10 54, g10 55, g10 56, g10 57, g10 58, g10 59, g10 60, .bool true, .bool false, .pointer (some ⟨rb, 0, none⟩), .agg #[.int .i64 sq, .string mk, .slice qs nS cs, .int .i64 lo], .int .i64 lm, .slice q2 lm cp2, .int .i64 lm, .bool false, u69, u70, u71, u72, u73, u74, u75, u76, g 77, g 78, g 79, g 80, g 81, g 82, g 83, undef, undef, undef, undef, undef, undef, undef, undef, undef, undef, undef, undef, undef, undef, undef, undef, undef, undef, undef, undef, undef, undef, undef, undef, undef, undef, undef, undef, undef, undef, undef, undef, undef, undef, undef, undef, undef, undef, undef, undef, undef, undef, undef, undef, undef, undef, undef, undef, undef, undef, undef, undef, undef, undef, undef, undef, undef, undef, undef, undef, undef, undef, undef, undef, undef, undef, undef, undef, undef, undef, undef], defers := [] }
def dstS18 (i : Nat) : Nat := ([78, 79, 80, 81, 77, 82, 83, 16, 17] : List Nat).getD i (2000 + i)
def laysS18 (sb : Nat) (vb : Nat) (sq : Nat) (lo : Nat) (mk : ByteArray) (qs : Option Addr) (nS : Nat) (cs : Nat) (U : RdM) (W : World) (nn : Nat) (j : Nat) (v : Value) (w : World) : Prop :=
  match j with
  | 0 => v = .pointer (some ⟨sb, 0, none⟩)
  | 1 => v = .pointer (some ⟨vb, 0, none⟩)
  | 2 => v = .agg #[.int .i64 sq, .string mk, .slice qs nS cs, .int .i64 lo]
  | 3 => svR W vb nn U (fun p => .tuple #[.pointer (some ⟨p, 0, none⟩), .nilIface]) v w
  | 4 => svR W vb nn U (fun p => .tuple #[.pointer (some ⟨p, 0, none⟩), .nilIface]) v w
  | 5 => svR W vb nn U (fun p => .pointer (some ⟨p, 0, none⟩)) v w
  | 6 => v = .nilIface
  | 7 => svR W vb nn U (fun p => .pointer (some ⟨p, 0, none⟩)) v w
  | 8 => v = .nilIface
  | _ => True
set_option maxRecDepth 100000 in
set_option maxHeartbeats 8000000 in
theorem readerSaves_any (q1 : Option Addr) (cp1 : Nat) (l : List Ev) (q2 : Option Addr) (cp2 : Nat) (m : List Ev) (at' : Int) (w : World) (hl : l.length ≤ 9223372036854775807) (hm : m.length ≤ 9223372036854775807) (h1 : evsAt w q1 l) (h2 : evsAt w q2 m) (hG : Glob w none0) :
    Calls Tryz.prog 6 #[.slice q1 l.length cp1, .slice q2 m.length cp2, .int .i64 at'] w (Res true w) := by
  have F1 := few_any q1 cp1 l w hl h1
  have S1 := Lib.hid (fun h : fewB l = true => few_sizes h)
  have S2 := Lib.hid (fun h : fewB m = true => few_sizes h)
  have E1 := Lib.hid h1
  have E2 := Lib.hid h2
  have GG := Lib.hid hG
  clear h1 h2 hG
  go_enter Tryz.func6, Tryz.ntmps6
  go_wp2_with fail
  refine F1.mono ?_
  rintro _ w1 ⟨rfl, hx⟩
  have X1 := Lib.hid hx
  have B1 := Lib.hid (ext_iff.1 hx)
  clear hx F1
  generalize fewB l = few1 at S1
  cases few1 with
  | false =>
    go_wp2_with fail
    go_ret
    exact ⟨rfl, X1.out⟩
  | true =>
  have F2 := few_any q2 cp2 m w1 hm (E2.out.at B1.out (Nat.le_refl _))
  go_wp2_with fail
  refine F2.mono ?_
  rintro _ w1' ⟨rfl, hx⟩
  have X1' := Lib.hid (ext_trans X1.out hx)
  clear hx F2 X1 B1
  generalize fewB m = few2 at S2
  cases few2 with
  | false =>
    go_wp2_with fail
    go_ret
    exact ⟨rfl, X1'.out⟩
  | true =>
  obtain ⟨hl30, hls⟩ := S1.out (by trivial)
  obtain ⟨hm30, hms⟩ := S2.out (by trivial)
  have HLS := Lib.hid hls
  have HMS := Lib.hid hms
  clear S1 S2 hls hms
  go_wp2_with fail
  refine (fed_any w1' (GG.out.ext X1'.out)).mono ?_
  rintro _ w2' ⟨rfl, hx⟩
  have X2' := Lib.hid (ext_trans X1'.out hx)
  clear hx X1'
  go_wp2_with fail
  refine (applied_any w2').mono ?_
  rintro _ w2 ⟨rfl, hx⟩
  have X2 := Lib.hid (ext_trans X2'.out hx)
  clear hx X2'
  have B2 := Lib.hid (ext_iff.1 X2.out)
  have DN := done_any q1 cp1 l w2 (by omega) HLS.out (E1.out.at B2.out (Nat.le_refl _)) (GG.out.ext X2.out)
  go_wp2_with fail
  refine DN.mono ?_
  rintro _ w3 ⟨sb, vb, V, F, A, vo, vr, vs, rfl, hd3⟩
  have D3 := Lib.hid hd3
  have HRU := Lib.hid (runs secS l)
  have OKL := Lib.hid (show (runM secS l).ok.length ≤ 30 from by have := ok_len secS l; omega)
  clear hd3 DN B2
  generalize hR1 : runM secS l = R1 at D3 HRU OKL
  have HR1 := Lib.hid hR1
  clear hR1
  have HLE := Lib.hid HRU.out.inv.len
  have hL30 : R1.S.L.length ≤ 30 := by rw [HLE.out]; exact OKL.out
  go_wp2_with fail
  refine (sfeed_any w3 V F sb vb _ secS _ D3.out.src).mono ?_
  rintro _ w4 ⟨v4, rfl, ho4, hb4⟩
  obtain ⟨q4, c4, rfl⟩ := ownsRl_shape ho4
  have CAP := (ownsRl_cp ho4).1
  have RA := Lib.hid (recsAt_owned ho4)
  have D4 := Lib.hid (D3.out.ext (ext_of hb4))
  clear ho4 hb4 D3
  have hkL := pickN_lt at' (R1.S.L.length + 1) (by omega)
  have PK := pick_any at' (R1.S.L.length + 1) w4 (by omega) (by omega) ((R1.S.L.length : Int) + 1) (by omega)
  generalize pickN at' (R1.S.L.length + 1) = k at PK hkL
  go_wp2_with fail
  refine PK.mono ?_
  rintro _ w5 ⟨rfl, hx5⟩
  have D5 := Lib.hid (D4.out.ext hx5)
  have RA5 := Lib.hid (recsAt_of RA.out (fun k hk => (ext_iff.1 hx5).block k hk) (ext_iff.1 hx5).size)
  clear PK hx5 D4 RA
  go_wp2_with fail
  have SFX := Lib.hid (fun W (hW : ∃ z, W = ext w5 z) => D5.out.src.ext hW)
  have SF5 := D5.out.st.more (F' := F) (fun i hi => .inl (D5.out.sub i hi))
  have SF := Lib.hid SF5
  have GV := Lib.hid (((GG.out.ext X2.out).step SF5).sub (G := V) (D5.out.src.vault.2))
  have FX := Lib.hid (fun W (hW : ∃ z, W = ext w5 z) => follow_any R1 HRU.out (by have := OKL.out; omega) k (by rw [← HLE.out]; omega) q4 c4 W V vb _ (D5.out.src.vault.1.ext hW) (GV.out.ext hW) (recsAt_tk (recsAt_of RA5.out (fun k hk => (ext_iff.1 hW).block k hk) (ext_iff.1 hW).size) k))
  have hkc : (k : Int) ≤ c4 := by omega
  have hkl : (k : Int) ≤ R1.S.L.length := by omega
  clear SF5
  refine wp_region_slots (frS10 q1 l.length cp1 q2 m.length cp2 at' sb vo vr q4 R1.S.L.length c4 k) dstS10 (fun _ => undef) (laysS10 sb vb q4 R1.S.L.length c4 k (follR R1 k) w5 k) (fun L g w => ∃ x, w = ext w5 x) (fun w w' => ∃ x, w' = ext w x) (by kernel_rfl) (by kernel_rfl) rfl ?_ (by kernel_rfl) (ext_refl _) ?_ ?_
  · exact fun j v w w' h hr => by unfold laysS10 at hr ⊢; split at hr <;> first | exact hr | exact svR.kept hr h
  · refine ⟨?_, ?_, ?_, ?_, ?_, ?_, ?_, ?_, ?_, ?_, ?_, trivial⟩
    all_goals (intro L gs w1 hLi hdeps hR hC; refine ends_of fun Q hQ => ?_)
    · have HQ := fun (a' : Act) (va : Value) (w' : World) (h1 : a' = frS10 q1 l.length cp1 q2 m.length cp2 at' sb vo vr q4 R1.S.L.length c4 k (upd1 gs 53 va)) h2 (h3 : laysS10 sb vb q4 R1.S.L.length c4 k (follR R1 k) w5 k 0 va w') h4 => hQ.out a' w' ⟨va, h1, h2, h3, h4⟩
      unfold frS10
      go_wp2_with fail
      exact HQ _ (.pointer (some ⟨sb, 0, none⟩)) _ (by simp only [frS10, upd1, Nat.reduceEqDiff, reduceIte]) (ext_refl _) rfl hC
    · have HQ := fun (a' : Act) (va : Value) (w' : World) (h1 : a' = frS10 q1 l.length cp1 q2 m.length cp2 at' sb vo vr q4 R1.S.L.length c4 k (upd1 gs 54 va)) h2 (h3 : laysS10 sb vb q4 R1.S.L.length c4 k (follR R1 k) w5 k 1 va w') h4 => hQ.out a' w' ⟨va, h1, h2, h3, h4⟩
      have r0 : gs 53 = .pointer (some ⟨sb, 0, none⟩) := hR 0 (hdeps ⟨0, .data⟩ (by simp) rfl)
      unfold frS10
      go_wp2_with fail
      refine (svault_any w1 V F sb vb _ secS _ (SFX.out w1 hC)).mono ?_
      rintro _ w5' ⟨rfl, rfl⟩
      go_wp2_with fail
      exact HQ _ (.pointer (some ⟨vb, 0, none⟩)) _ (by simp only [frS10, upd1, r0, Nat.reduceEqDiff, reduceIte]) (ext_refl _) rfl hC
    · have HQ := fun (a' : Act) (va : Value) (w' : World) (h1 : a' = frS10 q1 l.length cp1 q2 m.length cp2 at' sb vo vr q4 R1.S.L.length c4 k (upd1 gs 55 va)) h2 (h3 : laysS10 sb vb q4 R1.S.L.length c4 k (follR R1 k) w5 k 2 va w') h4 => hQ.out a' w' ⟨va, h1, h2, h3, h4⟩
      unfold frS10
      go_wp2_with fail
      exact HQ _ (.slice q4 R1.S.L.length c4) _ (by simp only [frS10, upd1, Nat.reduceEqDiff, reduceIte]) (ext_refl _) rfl hC
    · have HQ := fun (a' : Act) (va : Value) (w' : World) (h1 : a' = frS10 q1 l.length cp1 q2 m.length cp2 at' sb vo vr q4 R1.S.L.length c4 k (upd1 gs 56 va)) h2 (h3 : laysS10 sb vb q4 R1.S.L.length c4 k (follR R1 k) w5 k 3 va w') h4 => hQ.out a' w' ⟨va, h1, h2, h3, h4⟩
      unfold frS10
      go_wp2_with fail
      exact HQ _ (.int .i64 k) _ (by simp only [frS10, upd1, Nat.reduceEqDiff, reduceIte]) (ext_refl _) rfl hC
    · have HQ := fun (a' : Act) (va : Value) (w' : World) (h1 : a' = frS10 q1 l.length cp1 q2 m.length cp2 at' sb vo vr q4 R1.S.L.length c4 k (upd1 gs 57 va)) h2 (h3 : laysS10 sb vb q4 R1.S.L.length c4 k (follR R1 k) w5 k 4 va w') h4 => hQ.out a' w' ⟨va, h1, h2, h3, h4⟩
      have r2 : gs 55 = .slice q4 R1.S.L.length c4 := hR 2 (hdeps ⟨2, .data⟩ (by simp) rfl)
      have r3 : gs 56 = .int .i64 k := hR 3 (hdeps ⟨3, .data⟩ (by simp) rfl)
      unfold frS10
      go_wp2_with fail
      exact HQ _ (.slice q4 k c4) _ (by simp only [frS10, upd1, r2, r3, Nat.reduceEqDiff, reduceIte]) (ext_refl _) rfl hC
    · have HQ := fun (a' : Act) (va : Value) (w' : World) (h1 : a' = frS10 q1 l.length cp1 q2 m.length cp2 at' sb vo vr q4 R1.S.L.length c4 k (upd1 gs 58 va)) h2 (h3 : laysS10 sb vb q4 R1.S.L.length c4 k (follR R1 k) w5 k 5 va w') h4 => hQ.out a' w' ⟨va, h1, h2, h3, h4⟩
      have r1 : gs 54 = .pointer (some ⟨vb, 0, none⟩) := hR 1 (hdeps ⟨1, .data⟩ (by simp) rfl)
      have r4 : gs 57 = .slice q4 k c4 := hR 4 (hdeps ⟨4, .data⟩ (by simp) rfl)
      unfold frS10
      go_wp2_with fail
      refine (FX.out w1 hC).mono ?_
      rintro _ w5' ⟨rn, Dn, rfl, hr2, hs2⟩
      go_wp2_with fail
      exact HQ _ (.tuple #[.pointer (some ⟨rn, 0, none⟩), .bool true]) _ (by simp only [frS10, upd1, r1, r4, Nat.reduceEqDiff, reduceIte]) hs2.ext ⟨rn, Dn, rfl, hr2, (step.of_ext none0 hC).trans hs2⟩ (ext_trans hC hs2.ext)
    · have HQ := fun (a' : Act) (va : Value) (w' : World) (h1 : a' = frS10 q1 l.length cp1 q2 m.length cp2 at' sb vo vr q4 R1.S.L.length c4 k (upd1 gs 52 va)) h2 (h3 : laysS10 sb vb q4 R1.S.L.length c4 k (follR R1 k) w5 k 6 va w') h4 => hQ.out a' w' ⟨va, h1, h2, h3, h4⟩
      have r5 := hR 5 (hdeps ⟨5, .data⟩ (by simp) rfl)
      obtain ⟨rn, Dn, hv, hr2, hs2⟩ := r5
      change gs 58 = _ at hv
      unfold frS10
      go_wp2_with fail
      exact HQ _ (.tuple #[.pointer (some ⟨rn, 0, none⟩), .bool true]) _ (by simp only [frS10, upd1, hv, Nat.reduceEqDiff, reduceIte]) (ext_refl _) ⟨rn, Dn, rfl, hr2, hs2⟩ hC
    · have HQ := fun (a' : Act) (va : Value) (w' : World) (h1 : a' = frS10 q1 l.length cp1 q2 m.length cp2 at' sb vo vr q4 R1.S.L.length c4 k (upd1 gs 59 va)) h2 (h3 : laysS10 sb vb q4 R1.S.L.length c4 k (follR R1 k) w5 k 7 va w') h4 => hQ.out a' w' ⟨va, h1, h2, h3, h4⟩
      have r6 := hR 6 (hdeps ⟨6, .data⟩ (by simp) rfl)
      obtain ⟨rn, Dn, hv, hr2, hs2⟩ := r6
      change gs 52 = _ at hv
      unfold frS10
      go_wp2_with fail
      exact HQ _ (.pointer (some ⟨rn, 0, none⟩)) _ (by simp only [frS10, upd1, hv, Nat.reduceEqDiff, reduceIte]) (ext_refl _) ⟨rn, Dn, rfl, hr2, hs2⟩ hC
    · have HQ := fun (a' : Act) (va : Value) (w' : World) (h1 : a' = frS10 q1 l.length cp1 q2 m.length cp2 at' sb vo vr q4 R1.S.L.length c4 k (upd1 gs 60 va)) h2 (h3 : laysS10 sb vb q4 R1.S.L.length c4 k (follR R1 k) w5 k 8 va w') h4 => hQ.out a' w' ⟨va, h1, h2, h3, h4⟩
      have r6 := hR 6 (hdeps ⟨6, .data⟩ (by simp) rfl)
      obtain ⟨rn, Dn, hv, hr2, hs2⟩ := r6
      change gs 52 = _ at hv
      unfold frS10
      go_wp2_with fail
      exact HQ _ (.bool true) _ (by simp only [frS10, upd1, hv, Nat.reduceEqDiff, reduceIte]) (ext_refl _) rfl hC
    · have HQ := fun (a' : Act) (va : Value) (w' : World) (h1 : a' = frS10 q1 l.length cp1 q2 m.length cp2 at' sb vo vr q4 R1.S.L.length c4 k (upd1 gs 12 va)) h2 (h3 : laysS10 sb vb q4 R1.S.L.length c4 k (follR R1 k) w5 k 9 va w') h4 => hQ.out a' w' ⟨va, h1, h2, h3, h4⟩
      have r7 := hR 7 (hdeps ⟨7, .data⟩ (by simp) rfl)
      obtain ⟨rn, Dn, hv, hr2, hs2⟩ := r7
      change gs 59 = _ at hv
      unfold frS10
      go_wp2_with fail
      exact HQ _ (.pointer (some ⟨rn, 0, none⟩)) _ (by simp only [frS10, upd1, hv, Nat.reduceEqDiff, reduceIte]) (ext_refl _) ⟨rn, Dn, rfl, hr2, hs2⟩ hC
    · have HQ := fun (a' : Act) (va : Value) (w' : World) (h1 : a' = frS10 q1 l.length cp1 q2 m.length cp2 at' sb vo vr q4 R1.S.L.length c4 k (upd1 gs 13 va)) h2 (h3 : laysS10 sb vb q4 R1.S.L.length c4 k (follR R1 k) w5 k 10 va w') h4 => hQ.out a' w' ⟨va, h1, h2, h3, h4⟩
      have r8 : gs 60 = .bool true := hR 8 (hdeps ⟨8, .data⟩ (by simp) rfl)
      unfold frS10
      go_wp2_with fail
      exact HQ _ (.bool true) _ (by simp only [frS10, upd1, r8, Nat.reduceEqDiff, reduceIte]) (ext_refl _) rfl hC
  intro L10 g10 w10 hall hR hC
  have r9 := hR 9 (by decide)
  have r10 : g10 13 = .bool true := hR 10 (by decide)
  obtain ⟨rb, D, hv, hr, hs⟩ := r9
  change g10 12 = _ at hv
  have D10 := D5.out.src.ext hC
  have TW := Lib.hid (show twoIn w2 w10 V F D sb vb rb (3 * l.length) k R1.S (follR R1 k) from by
    refine ⟨SF.out.trans (hs.lift (A := F) (fun _ h => h.elim)), D10, hr, fun i h1 h2 => ?_⟩
    have := (hs.new h2).1; have := D5.out.src.lt i h1; omega)
  clear hall hR hC hr hs D10 SFX FX D5 RA5
  unfold frS10
  simp only [hv, r10]
  have LT1 := Lib.hid (late HRU.out k (by rw [← HLE.out]; omega))
  have UT := Lib.hid (show (follR R1 k).T.length ≤ k from by
    rw [show (follR R1 k).T = _ from LT1.out.2.2.1]
    exact Nat.le_trans (List.length_filter_le _ _) (tabN_len _ _))
  have URT := Lib.hid (show ∀ c ∈ sortC (follR R1 k).T, rightE okV (putE c) = true from fun c hc => by
    have h1 := sortC_mem.1 hc
    rw [show (follR R1 k).T = _ from LT1.out.2.2.1] at h1
    exact tabN_right HRU.out.acc k c (List.mem_filter.1 h1).1)
  have UON := Lib.hid (show Once (follR R1 k).T from TW.out.rdr.once)
  have UZ := Lib.hid (show (follR R1 k).seq = 0 → (follR R1 k).mark = noneS ∧ sortC (follR R1 k).T = [] from fun h => by
    have h1 : (follR R1 k).seq = k := LT1.out.1
    obtain rfl : k = 0 := by omega
    exact ⟨rfl, sortC_nil.2 rfl⟩)
  have UM := Lib.hid (show (follR R1 k).mark.size = 16 from by
    rw [show (follR R1 k).mark = _ from LT1.out.2.1]
    exact headR_size _)
  have ULO := Lib.hid (show (follR R1 k).lost ≤ (follR R1 k).seq ∧ (follR R1 k).seq ≤ 1048576 from by
    obtain ⟨tm, h⟩ := TW.out.rdr
    exact ⟨h.lo, h.sq⟩)
  have UQ := Lib.hid (show (follR R1 k).seq = k from LT1.out.1)
  generalize hU : follR R1 k = U at TW UT URT UON UZ UM ULO UQ
  have HU := Lib.hid hU
  clear hU hv r10 LT1
  go_wp2_with fail
  refine (rsave_any w10 D rb vb k U TW.out.rdr (by omega)).mono ?_
  rintro _ w11 ⟨v11, rfl, ho11, hb11⟩
  obtain ⟨qs, cs, rfl⟩ := rows_shape ho11
  have SVI := Lib.hid (show svIn w2 (w11.alloc (.cells #[.int .i64 U.seq, .string U.mark, .slice qs (sortC U.T).length cs, .int .i64 U.lost] 70)) V F D sb vb rb (3 * l.length + 3 * 0) k (runM secS ((l ++ m).take (l.length + 0))).S U w11.heap.size qs cs (sortC U.T) from by
    have ha := ext_alloc (.cells #[.int .i64 U.seq, .string U.mark, .slice qs (sortC U.T).length cs, .int .i64 U.lost] 70) (ext_of hb11)
    have e : runM secS ((l ++ m).take (l.length + 0)) = R1 := by rw [Nat.add_zero, List.take_left, HR1.out]
    rw [e]
    have sz := hb11.size
    refine ⟨TW.out.ext ha, heap_alloc_at w11 _, ⟨fun h => ?_, fun h => ?_⟩, cellsIn_x (cellsIn_of ho11).1 (ext_alloc _ (ext_refl w11)), fun a ha' => ?_⟩
    · have := TW.out.src.lt _ h; omega
    · have := TW.out.rdr.lt _ h; omega
    · have h1 := ho11.base (g := a.block) (by rw [ha']; rfl)
      refine ⟨fun h => ?_, fun h => ?_, by simp; omega⟩
      · have := TW.out.src.lt _ h; omega
      · have := TW.out.rdr.lt _ h; omega)
  clear ho11 hb11 TW
  go_wp2_with fail
  generalize w11.alloc (.cells #[.int .i64 U.seq, .string U.mark, .slice qs (sortC U.T).length cs, .int .i64 U.lost] 70) = w12 at SVI ⊢
  generalize w11.heap.size = jb at SVI ⊢
  go_loopw [15] (fun iv wr => ∃ (i : Nat) (F : Blk), i ≤ m.length ∧ iv = .int .i64 i ∧ Hid (svIn w2 wr V F D sb vb rb (3 * l.length + 3 * i) k (runM secS ((l ++ m).take (l.length + i))).S U jb qs cs (sortC U.T))) (fun iv _ => m.length - (intOf iv).toNat)
  case atStart => exact ⟨0, F, Nat.zero_le _, rfl, SVI⟩
  case round =>
    clear SVI SF GV
    obtain ⟨i, F, hi, rfl, SVI⟩ := hrel
    have XW := Lib.hid (ext_trans X2.out SVI.out.two.st.ext)
    have GW := Lib.hid ((GG.out.ext X2.out).step SVI.out.two.st)
    by_cases hlt : i < m.length
    · have hlt' : (i : Int) < m.length := by omega
      have hx := List.getElem?_eq_getElem hlt
      have hz := HMS.out _ (List.getElem_mem hlt)
      have hx2 : (l ++ m)[l.length + i]? = some m[i] := by rw [List.getElem?_append_right (by omega), Nat.add_sub_cancel_left]; exact hx
      have RT := Lib.hid (runM_take secS (l ++ m) (l.length + i) _ hx2)
      have ML := fun s => (by have := run_many_le (l ++ m) (l.length + i) s; rw [List.length_append] at this; exact this : (runM secS ((l ++ m).take (l.length + i))).S.many s ≤ l.length + m.length ∧ (runM secS ((l ++ m).take (l.length + i))).S.L.length ≤ l.length + m.length)
      have DO := sdo_any _ wr V F sb vb (3 * l.length + 3 * i) secS (runM secS ((l ++ m).take (l.length + i))).S SVI.out.two.src (GW.out.sub (fun _ hi => .inl hi)) ⟨hz.1, hz.2.1, hz.2.2.1⟩ hz.2.2.2 (by decide) (by omega) (by have := (ML m[i].subject).1; omega) (by have := (ML m[i].subject).2; omega)
      obtain ⟨g, o, rfl, hg, e0, e1, e2, e3, e4⟩ := (E2.out.at (ext_iff.1 XW.out) (Nat.le_refl _)).row hx
      clear ML hz hx2
      generalize runM secS ((l ++ m).take (l.length + i)) = R at DO SVI RT
      generalize m[i] = x at hx RT DO e0 e1 e2 e3 e4
      clear hx
      have HS := Lib.hid (show doS secS R.S x = (runM secS ((l ++ m).take (l.length + (i + 1)))).S from by
        rw [← Nat.add_assoc, RT.out]
        unfold run1
        split
        · rfl
        · rename_i h; exact doS_no h)
      unfold DoPost at DO
      rw [HS.out] at DO
      generalize (if doX R.S x = 0 then toldR secS R.S.many R.S.has R.S.L x else zeroR) = rr at DO
      generalize (if doX R.S x = 0 then Value.nilIface else errV (doX R.S x)) = xv at DO
      clear RT HS
      obtain ⟨x0, x1, x2, x3, x4⟩ := x
      unfold evV at DO
      dsimp only at DO e0 e1 e2 e3 e4
      go_wp2_with fail
      refine DO.mono ?_
      rintro _ w7 ⟨rfl, F', hs7, hst7⟩
      have S7 := Lib.hid ((SVI.out.turn hs7 hst7).mono (by omega : 3 * l.length + 3 * i + 3 ≤ 3 * l.length + 3 * (i + 1)))
      clear hs7 hst7 DO SVI GW e0 e1 e2 e3 e4 XW
      go_wp2_with fail
      go_roundw
      case rel => exact ⟨i + 1, F', hlt, by go_num, S7⟩
      case measure => simp [intOf]; omega
    · obtain rfl : i = m.length := by omega
      have e : (l ++ m).take (l.length + m.length) = l ++ m := List.take_of_length_le (by simp)
      rw [e] at SVI
      have HR2 := Lib.hid (runs secS (l ++ m))
      have OK2 := Lib.hid (show (runM secS (l ++ m)).ok.length ≤ 60 from by have := ok_len secS (l ++ m); simp at this; omega)
      have MORE := Lib.hid (run_more secS l m)
      rw [HR1.out] at MORE
      generalize runM secS (l ++ m) = R2 at SVI HR2 OK2 MORE
      clear e
      go_wp2_with fail
      have SFY := Lib.hid (fun W (hW : ∃ z, W = ext wr z) => SVI.out.two.src.ext hW)
      have BOX := Lib.hid SVI.out.box
      have LX := Lib.hid (fun W (hW : ∃ z, W = ext wr z) => load_any W vb U.seq U.lost U.mark qs cs (sortC U.T) (cellsIn_x SVI.out.rows hW) (sortC_asc UON.out) URT.out (by rw [sortC_len]; have := UT.out; omega) ULO.out.1 ULO.out.2 UM.out UZ.out)
      refine wp_region_slots (frS18 q1 l.length cp1 q2 m.length cp2 at' sb vo vr q4 R1.S.L.length c4 k g10 rb jb U.seq U.lost U.mark qs (sortC U.T).length cs u69 u70 u71 u72 u73 u74 u75 u76) dstS18 (fun _ => undef) (laysS18 sb vb U.seq U.lost U.mark qs (sortC U.T).length cs ⟨U.seq, U.mark, putAll (sortC U.T) [], U.lost⟩ wr (sortC U.T).length) (fun L g w => ∃ x, w = ext wr x) (fun w w' => ∃ x, w' = ext w x) (by kernel_rfl) (by kernel_rfl) rfl ?_ (by kernel_rfl) (ext_refl _) ?_ ?_
      · exact fun j v w w' h hr => by unfold laysS18 at hr ⊢; split at hr <;> first | exact hr | exact svR.kept hr h
      · refine ⟨?_, ?_, ?_, ?_, ?_, ?_, ?_, ?_, ?_, trivial⟩
        all_goals (intro L gs w1 hLi hdeps hR hC; refine ends_of fun Q hQ => ?_)
        · have HQ := fun (a' : Act) (va : Value) (w' : World) (h1 : a' = frS18 q1 l.length cp1 q2 m.length cp2 at' sb vo vr q4 R1.S.L.length c4 k g10 rb jb U.seq U.lost U.mark qs (sortC U.T).length cs u69 u70 u71 u72 u73 u74 u75 u76 (upd1 gs 78 va)) h2 (h3 : laysS18 sb vb U.seq U.lost U.mark qs (sortC U.T).length cs ⟨U.seq, U.mark, putAll (sortC U.T) [], U.lost⟩ wr (sortC U.T).length 0 va w') h4 => hQ.out a' w' ⟨va, h1, h2, h3, h4⟩
          unfold frS18
          go_wp2_with fail
          exact HQ _ (.pointer (some ⟨sb, 0, none⟩)) _ (by simp only [frS18, upd1, Nat.reduceEqDiff, reduceIte]) (ext_refl _) rfl hC
        · have HQ := fun (a' : Act) (va : Value) (w' : World) (h1 : a' = frS18 q1 l.length cp1 q2 m.length cp2 at' sb vo vr q4 R1.S.L.length c4 k g10 rb jb U.seq U.lost U.mark qs (sortC U.T).length cs u69 u70 u71 u72 u73 u74 u75 u76 (upd1 gs 79 va)) h2 (h3 : laysS18 sb vb U.seq U.lost U.mark qs (sortC U.T).length cs ⟨U.seq, U.mark, putAll (sortC U.T) [], U.lost⟩ wr (sortC U.T).length 1 va w') h4 => hQ.out a' w' ⟨va, h1, h2, h3, h4⟩
          have r0 : gs 78 = .pointer (some ⟨sb, 0, none⟩) := hR 0 (hdeps ⟨0, .data⟩ (by simp) rfl)
          unfold frS18
          go_wp2_with fail
          refine (svault_any w1 V F sb vb _ secS _ (SFY.out w1 hC)).mono ?_
          rintro _ w5' ⟨rfl, rfl⟩
          go_wp2_with fail
          exact HQ _ (.pointer (some ⟨vb, 0, none⟩)) _ (by simp only [frS18, upd1, r0, Nat.reduceEqDiff, reduceIte]) (ext_refl _) rfl hC
        · have HQ := fun (a' : Act) (va : Value) (w' : World) (h1 : a' = frS18 q1 l.length cp1 q2 m.length cp2 at' sb vo vr q4 R1.S.L.length c4 k g10 rb jb U.seq U.lost U.mark qs (sortC U.T).length cs u69 u70 u71 u72 u73 u74 u75 u76 (upd1 gs 80 va)) h2 (h3 : laysS18 sb vb U.seq U.lost U.mark qs (sortC U.T).length cs ⟨U.seq, U.mark, putAll (sortC U.T) [], U.lost⟩ wr (sortC U.T).length 2 va w') h4 => hQ.out a' w' ⟨va, h1, h2, h3, h4⟩
          have hbx := ((ext_iff.1 hC).block _ (lt_of_heap BOX.out)).trans BOX.out
          obtain ⟨z0, z1, z2, z3⟩ := cell4 hbx
          have lw1 := lt_of_heap hbx
          unfold frS18
          go_wp2_with fail
          exact HQ _ (.agg #[.int .i64 U.seq, .string U.mark, .slice qs (sortC U.T).length cs, .int .i64 U.lost]) _ (by simp only [frS18, upd1, Nat.reduceEqDiff, reduceIte]) (ext_refl _) rfl hC
        · have HQ := fun (a' : Act) (va : Value) (w' : World) (h1 : a' = frS18 q1 l.length cp1 q2 m.length cp2 at' sb vo vr q4 R1.S.L.length c4 k g10 rb jb U.seq U.lost U.mark qs (sortC U.T).length cs u69 u70 u71 u72 u73 u74 u75 u76 (upd1 gs 81 va)) h2 (h3 : laysS18 sb vb U.seq U.lost U.mark qs (sortC U.T).length cs ⟨U.seq, U.mark, putAll (sortC U.T) [], U.lost⟩ wr (sortC U.T).length 3 va w') h4 => hQ.out a' w' ⟨va, h1, h2, h3, h4⟩
          have r1 : gs 79 = .pointer (some ⟨vb, 0, none⟩) := hR 1 (hdeps ⟨1, .data⟩ (by simp) rfl)
          have r2 : gs 80 = .agg #[.int .i64 U.seq, .string U.mark, .slice qs (sortC U.T).length cs, .int .i64 U.lost] := hR 2 (hdeps ⟨2, .data⟩ (by simp) rfl)
          unfold frS18
          go_wp2_with fail
          refine (LX.out w1 hC).mono ?_
          rintro _ w5' ⟨rn, Dn, rfl, hr2, hs2⟩
          go_wp2_with fail
          exact HQ _ (.tuple #[.pointer (some ⟨rn, 0, none⟩), .nilIface]) _ (by simp only [frS18, upd1, r1, r2, Nat.reduceEqDiff, reduceIte]) hs2.ext ⟨rn, Dn, rfl, hr2, (step.of_ext none0 hC).trans hs2⟩ (ext_trans hC hs2.ext)
        · have HQ := fun (a' : Act) (va : Value) (w' : World) (h1 : a' = frS18 q1 l.length cp1 q2 m.length cp2 at' sb vo vr q4 R1.S.L.length c4 k g10 rb jb U.seq U.lost U.mark qs (sortC U.T).length cs u69 u70 u71 u72 u73 u74 u75 u76 (upd1 gs 77 va)) h2 (h3 : laysS18 sb vb U.seq U.lost U.mark qs (sortC U.T).length cs ⟨U.seq, U.mark, putAll (sortC U.T) [], U.lost⟩ wr (sortC U.T).length 4 va w') h4 => hQ.out a' w' ⟨va, h1, h2, h3, h4⟩
          have r3 := hR 3 (hdeps ⟨3, .data⟩ (by simp) rfl)
          obtain ⟨rn, Dn, hv, hr2, hs2⟩ := r3
          change gs 81 = _ at hv
          unfold frS18
          go_wp2_with fail
          exact HQ _ (.tuple #[.pointer (some ⟨rn, 0, none⟩), .nilIface]) _ (by simp only [frS18, upd1, hv, Nat.reduceEqDiff, reduceIte]) (ext_refl _) ⟨rn, Dn, rfl, hr2, hs2⟩ hC
        · have HQ := fun (a' : Act) (va : Value) (w' : World) (h1 : a' = frS18 q1 l.length cp1 q2 m.length cp2 at' sb vo vr q4 R1.S.L.length c4 k g10 rb jb U.seq U.lost U.mark qs (sortC U.T).length cs u69 u70 u71 u72 u73 u74 u75 u76 (upd1 gs 82 va)) h2 (h3 : laysS18 sb vb U.seq U.lost U.mark qs (sortC U.T).length cs ⟨U.seq, U.mark, putAll (sortC U.T) [], U.lost⟩ wr (sortC U.T).length 5 va w') h4 => hQ.out a' w' ⟨va, h1, h2, h3, h4⟩
          have r4 := hR 4 (hdeps ⟨4, .data⟩ (by simp) rfl)
          obtain ⟨rn, Dn, hv, hr2, hs2⟩ := r4
          change gs 77 = _ at hv
          unfold frS18
          go_wp2_with fail
          exact HQ _ (.pointer (some ⟨rn, 0, none⟩)) _ (by simp only [frS18, upd1, hv, Nat.reduceEqDiff, reduceIte]) (ext_refl _) ⟨rn, Dn, rfl, hr2, hs2⟩ hC
        · have HQ := fun (a' : Act) (va : Value) (w' : World) (h1 : a' = frS18 q1 l.length cp1 q2 m.length cp2 at' sb vo vr q4 R1.S.L.length c4 k g10 rb jb U.seq U.lost U.mark qs (sortC U.T).length cs u69 u70 u71 u72 u73 u74 u75 u76 (upd1 gs 83 va)) h2 (h3 : laysS18 sb vb U.seq U.lost U.mark qs (sortC U.T).length cs ⟨U.seq, U.mark, putAll (sortC U.T) [], U.lost⟩ wr (sortC U.T).length 6 va w') h4 => hQ.out a' w' ⟨va, h1, h2, h3, h4⟩
          have r4 := hR 4 (hdeps ⟨4, .data⟩ (by simp) rfl)
          obtain ⟨rn, Dn, hv, hr2, hs2⟩ := r4
          change gs 77 = _ at hv
          unfold frS18
          go_wp2_with fail
          exact HQ _ (.nilIface) _ (by simp only [frS18, upd1, hv, Nat.reduceEqDiff, reduceIte]) (ext_refl _) rfl hC
        · have HQ := fun (a' : Act) (va : Value) (w' : World) (h1 : a' = frS18 q1 l.length cp1 q2 m.length cp2 at' sb vo vr q4 R1.S.L.length c4 k g10 rb jb U.seq U.lost U.mark qs (sortC U.T).length cs u69 u70 u71 u72 u73 u74 u75 u76 (upd1 gs 16 va)) h2 (h3 : laysS18 sb vb U.seq U.lost U.mark qs (sortC U.T).length cs ⟨U.seq, U.mark, putAll (sortC U.T) [], U.lost⟩ wr (sortC U.T).length 7 va w') h4 => hQ.out a' w' ⟨va, h1, h2, h3, h4⟩
          have r5 := hR 5 (hdeps ⟨5, .data⟩ (by simp) rfl)
          obtain ⟨rn, Dn, hv, hr2, hs2⟩ := r5
          change gs 82 = _ at hv
          unfold frS18
          go_wp2_with fail
          exact HQ _ (.pointer (some ⟨rn, 0, none⟩)) _ (by simp only [frS18, upd1, hv, Nat.reduceEqDiff, reduceIte]) (ext_refl _) ⟨rn, Dn, rfl, hr2, hs2⟩ hC
        · have HQ := fun (a' : Act) (va : Value) (w' : World) (h1 : a' = frS18 q1 l.length cp1 q2 m.length cp2 at' sb vo vr q4 R1.S.L.length c4 k g10 rb jb U.seq U.lost U.mark qs (sortC U.T).length cs u69 u70 u71 u72 u73 u74 u75 u76 (upd1 gs 17 va)) h2 (h3 : laysS18 sb vb U.seq U.lost U.mark qs (sortC U.T).length cs ⟨U.seq, U.mark, putAll (sortC U.T) [], U.lost⟩ wr (sortC U.T).length 8 va w') h4 => hQ.out a' w' ⟨va, h1, h2, h3, h4⟩
          have r6 : gs 83 = .nilIface := hR 6 (hdeps ⟨6, .data⟩ (by simp) rfl)
          unfold frS18
          go_wp2_with fail
          exact HQ _ (.nilIface) _ (by simp only [frS18, upd1, r6, Nat.reduceEqDiff, reduceIte]) (ext_refl _) rfl hC
      intro L18 g18 w18 hall hR hC
      have r7 := hR 7 (by decide)
      have r8 : g18 17 = .nilIface := hR 8 (by decide)
      obtain ⟨xb, E, hv, hxr, hs⟩ := r7
      change g18 16 = _ at hv
      have ST18 := Lib.hid (SVI.out.two.st.trans (hs.lift (A := fun i => F i ∨ D i) (fun _ h => h.elim)))
      have SR18 := Lib.hid (SVI.out.two.src.ext hC)
      have RR18 := Lib.hid (SVI.out.two.rdr.ext hC)
      have XR18 := Lib.hid (hxr.mono (show (sortC U.T).length ≤ k from by rw [sortC_len]; exact UT.out))
      have AP1 := Lib.hid SVI.out.two.ap
      have AP2 := Lib.hid (show apart F E from fun i h1 h2 => by have := (hs.new h2).1; have := SVI.out.two.src.lt i h1; omega)
      have AP3 := Lib.hid (show apart D E from fun i h1 h2 => by have := (hs.new h2).1; have := SVI.out.two.rdr.lt i h1; omega)
      clear hall hR hC hxr hs SFY BOX LX SVI GW XW
      unfold frS18
      simp only [hv, r8]
      clear hv r8
      go_wp2_with fail
      refine (sfeed_any w18 V F sb vb _ secS _ SR18.out).mono ?_
      rintro _ w19 ⟨v19, rfl, ho19, hb19⟩
      obtain ⟨q19, c19, rfl⟩ := ownsRl_shape ho19
      have SAME := Lib.hid (show same U ⟨U.seq, U.mark, putAll (sortC U.T) [], U.lost⟩ from ⟨rfl, rfl, rfl, (putAll_perm _ (sortC_asc UON.out).once).trans (sortC_perm U.T)⟩)
      have GO := Lib.hid (show goIn w2 w19 V F D E sb vb rb xb (3 * l.length + 3 * m.length) k R2.S U ⟨U.seq, U.mark, putAll (sortC U.T) [], U.lost⟩ q19 from by
        refine ⟨ST18.out.trans (.of_ext _ (ext_of hb19)), SR18.out.ext (ext_of hb19), RR18.out.ext (ext_of hb19), XR18.out.ext (ext_of hb19), AP1.out, AP2.out, AP3.out, recsAt_owned ho19, fun a ha => ?_⟩
        have h1 := ho19.base (g := a.block) (by rw [ha]; rfl)
        refine ⟨fun h => ?_, fun h => ?_, h1.2⟩
        · have := RR18.out.lt _ h; omega
        · have := XR18.out.lt _ h; omega)
      generalize (⟨U.seq, U.mark, putAll (sortC U.T) [], U.lost⟩ : RdM) = X at SAME GO
      clear ho19 hb19 ST18 SR18 RR18 XR18 AP1 AP2 AP3
      have HL2 := Lib.hid HR2.out.inv.len
      have hL60 : R2.S.L.length ≤ 60 := by rw [HL2.out]; exact OK2.out
      have hk2 : k ≤ R2.S.L.length := by
        obtain ⟨t, u, e1, e2⟩ := MORE.out
        rw [e1, List.length_append]
        omega
      have OS := Lib.hid (show U.seq = k ∧ U.mark = headR (R2.S.L.take k) ∧ Once U.T ∧ U.T.filter (fun c => !goneIn (R2.ok.drop k) c.subject) = (tabN R2.ok k).filter fun c => !goneIn (R2.ok.drop k) c.subject from by
        obtain ⟨t, u, e1, e2⟩ := MORE.out
        have := on_start HRU.out e1 e2 (k := k) (by rw [← HLE.out]; omega)
        dsimp only at this
        rw [← HU.out]
        exact this)
      have GOT := Lib.hid (fun j => goOn_len R2 k U j)
      go_wp2_with fail
      go_loopw [18] (fun iv wr => ∃ (i j : Nat) (D E : Blk) (X : RdM), i = k + j ∧ i ≤ R2.S.L.length ∧ iv = .int .i64 i ∧ Hid (goIn w2 wr V F D E sb vb rb xb (3 * l.length + 3 * m.length) i R2.S (goOn R2 k U j) X q19) ∧ Hid (same (goOn R2 k U j) X)) (fun iv _ => R2.S.L.length - (intOf iv).toNat)
      case atStart => exact ⟨k, 0, D, E, X, rfl, hk2, rfl, GO, SAME⟩
      case round =>
        clear GO SAME
        obtain ⟨i, j, D, E, X, hij, hi, rfl, GO, SAME⟩ := hrel
        have HIJ := Lib.hid hij
        clear hij
        have GON := Lib.hid (go_on HR2.out OS.out.1 OS.out.2.1 OS.out.2.2.1 OS.out.2.2.2 j (by rw [← HL2.out, ← HIJ.out]; exact hi))
        by_cases hlt : i < R2.S.L.length
        · have hlt' : (i : Int) < R2.S.L.length := by omega
          have hie : i < R2.ok.length := by rw [← HL2.out]; exact hlt
          have hx := List.getElem?_eq_getElem hlt
          have he := List.getElem?_eq_getElem hie
          obtain ⟨t1, t2, t3, t4, t5⟩ := HR2.out.inv.told i _ _ hx he
          have HN := Lib.hid (show goOn R2 k U (j + 1) = readM R2.S.many R2.S.has (goOn R2 k U j) R2.S.L[i] R2.ok[i] from goOn_succ (by rw [← HIJ.out]; exact hx) (by rw [← HIJ.out]; exact he))
          have s1 : (goOn R2 k U j).seq = i := by rw [GON.out.1, HIJ.out]
          have s2 : (goOn R2 k U j).mark = headR (R2.S.L.take i) := by rw [GON.out.2.1, HIJ.out]
          have GW := Lib.hid ((GG.out.ext X2.out).step GO.out.st)
          have RD1 := read_next R2.S.L[i] R2.ok[i] wr V D rb vb i _ secS R2.S.many R2.S.has (goOn R2 k U j) GO.out.r GO.out.src.vault.1 (GW.out.sub (fun _ h => h.elim (fun h => .inl (.inl (GO.out.src.vault.2 _ h))) (fun h => .inl (.inr h)))) (fun b h1 h2 => GO.out.a1 b (GO.out.src.vault.2 b h1) h2) t1 t4 (by rw [s1]; exact t2) (by rw [s2]; exact t3) (by omega) (by omega)
          rw [← HN.out] at RD1
          have RD2 := Lib.hid (fun w7 D' (hg : step wr w7 D D') => read_next R2.S.L[i] R2.ok[i] w7 V E xb vb i _ secS R2.S.many R2.S.has X (GO.out.x.step hg GO.out.a3) ((GO.out.src.step hg GO.out.a1.symm).vault.1)
            (((GW.out.step (hg.lift (A := fun i => (F i ∨ D i) ∨ E i) (fun _ hi => .inl (.inr hi)))).sub (fun _ h => h.elim (fun h => .inl (.inl (.inl (GO.out.src.vault.2 _ h)))) (fun h => .inl (.inr h))))) (fun b h1 h2 => GO.out.a2 b (GO.out.src.vault.2 b h1) h2) t1 t4 (by rw [SAME.out.seq, s1]; exact t2) (by rw [SAME.out.mark, s2]; exact t3) (by omega) (by rw [SAME.out.seq]; omega))
          have SAME2 := Lib.hid (SAME.out.read GON.out.2.2.1 R2.S.many R2.S.has R2.S.L[i] R2.ok[i])
          rw [← HN.out] at SAME2
          have RQ := Lib.hid (fun w7 D' (hg : step wr w7 D D') => recsAt_same GO.out.recs (fun a ha => hg.block _ (GO.out.offq a ha).2.2 (GO.out.offq a ha).1) hg.size)
          generalize readM R2.S.many R2.S.has X R2.S.L[i] R2.ok[i] = X' at RD2 SAME2
          have TLJ := GOT.out (j + 1)
          have TLX := SAME2.out.rows.length_eq
          have HTU := UT.out
          have hj60 : j ≤ 60 := by have := HIJ.out; omega
          have ON2 := Lib.hid (show Once (goOn R2 k U (j + 1)).T from by rw [HN.out]; exact readM_once GON.out.2.2.1 _ _ _ _)
          obtain ⟨g, o, rfl, e0, e1, e2, e3, e4, hg⟩ := recsAt_row GO.out.recs hx
          have hxw := hx
          generalize R2.S.L[i] = x at hx hxw RD1 RD2 e0 e1 e2 e3 e4
          clear t1 t2 t3 t4 t5 s1 s2 hx he hie HN GW
          obtain ⟨q0, u0, g0, p0, b0⟩ := x
          unfold recV at RD1 RD2
          dsimp only at RD1 RD2 e0 e1 e2 e3 e4
          go_wp2_with fail
          refine RD1.mono ?_
          rintro _ w7 ⟨rfl, D', hr7, hs7⟩
          have RD2 := RD2.out w7 D' hs7
          obtain ⟨g', o', hq', e0', e1', e2', e3', e4', hg'⟩ := recsAt_row (RQ.out w7 D' hs7) hxw
          simp only [Option.some.injEq, Addr.mk.injEq, and_true] at hq'
          obtain ⟨rfl, rfl⟩ := hq'
          dsimp only at e0' e1' e2' e3' e4'
          have R7 := Lib.hid hr7
          have S7 := Lib.hid hs7
          clear hr7 hs7 RD1 RQ e0 e1 e2 e3 e4 hg
          go_wp2_with fail
          refine RD2.mono ?_
          rintro _ w8 ⟨rfl, E', hr8, hs8⟩
          have G8 := Lib.hid (GO.out.both R7.out S7.out hr8 hs8)
          clear hr8 hs8 RD2 e0' e1' e2' e3' e4' hg' R7 S7 GO SAME GON
          go_wp2_with fail
          refine (rcells_any w8 D' rb vb _ _ G8.out.r (by omega)).mono ?_
          rintro _ w9 ⟨v9, rfl, ho9, _, hb9⟩
          have G9 := Lib.hid (G8.out.ext (ext_of hb9))
          have O9 := Lib.hid ho9
          clear ho9 hb9 G8
          go_wp2_with fail
          refine (rcells_any w9 E' xb vb _ _ G9.out.x (by omega)).mono ?_
          rintro _ w11 ⟨v11, rfl, ho11, _, hb11⟩
          have G11 := Lib.hid (G9.out.ext (ext_of hb11))
          have O11 := Lib.hid ho11
          have P11 := Lib.hid (O9.out.kept (grown_below hb11 none) (by simp))
          clear ho11 hb11 G9 O9
          obtain ⟨qa, ca, rfl⟩ := rows_shape P11.out
          obtain ⟨qb, cb, rfl⟩ := rows_shape O11.out
          have EQ := eqC_any qa qb ca cb _ _ w11 (by rw [sortC_len]; omega) (by rw [sortC_len]; omega) (cellsIn_of P11.out).1 (cellsIn_of O11.out).1
          rw [(allEq_cells _ _).2 (sortC_congr ON2.out SAME2.out.rows.symm)] at EQ
          go_wp2_with fail
          refine EQ.mono ?_
          rintro _ w12 ⟨rfl, hx12⟩
          have G12 := Lib.hid (G11.out.ext hx12)
          clear EQ hx12 G11 O11 P11
          go_wp2_with fail
          refine (rlost_any w12 D' rb vb _ _ G12.out.r).mono ?_
          rintro _ w13 ⟨rfl, rfl⟩
          have LX := rlost_any w12 E' xb vb _ _ G12.out.x
          rw [SAME2.out.lost] at LX
          go_wp2_with fail
          refine LX.mono ?_
          rintro _ w13 ⟨rfl, rfl⟩
          clear LX
          go_wp2_with fail
          go_roundw
          case rel => exact ⟨i + 1, j + 1, D', E', X', by rw [HIJ.out, Nat.add_assoc], hlt, by go_num, G12, SAME2⟩
          case measure => simp [intOf]; omega
        · have hie : i = R2.S.L.length := by omega
          have TE := Lib.hid (show (goOn R2 k U j).T = R2.S.T from by
            refine on_end HR2.out ?_
            have := GON.out.2.2.2
            rw [← HIJ.out, hie, HL2.out] at this
            exact this)
          have ON := Lib.hid GON.out.2.2.1
          have TLL : R2.S.T.length ≤ 60 := by rw [HR2.out.tab]; have := tabN_len R2.ok R2.ok.length; have := OK2.out; omega
          have TLX : X.T.length = R2.S.T.length := by rw [← TE.out]; exact SAME.out.rows.length_eq
          have hlt' : ¬ (i : Int) < R2.S.L.length := by omega
          clear hie GON
          go_wp2_with fail
          refine (rat_any wr D rb vb _ _ GO.out.r).mono ?_
          rintro _ w7 ⟨rfl, hx7⟩
          have G7 := Lib.hid (GO.out.ext hx7)
          clear hx7 GO
          have RT := rat_any w7 E xb vb _ _ G7.out.x
          rw [SAME.out.seq, SAME.out.mark] at RT
          go_wp2_with fail
          refine RT.mono ?_
          rintro _ w8 ⟨rfl, hx8⟩
          have G8 := Lib.hid (G7.out.ext hx8)
          clear hx8 G7 RT
          go_wp2_with fail
          refine (rcells_any w8 E xb vb _ _ G8.out.x (by omega)).mono ?_
          rintro _ w9 ⟨v9, rfl, ho9, _, hb9⟩
          have G9 := Lib.hid (G8.out.ext (ext_of hb9))
          have O9 := Lib.hid ho9
          clear ho9 hb9 G8
          go_wp2_with fail
          refine (scells_any w9 V F sb vb _ secS _ G9.out.src (by omega)).mono ?_
          rintro _ w11 ⟨v11, rfl, ho11, _, hb11⟩
          have G11 := Lib.hid (G9.out.ext (ext_of hb11))
          have O11 := Lib.hid ho11
          have P11 := Lib.hid (O9.out.kept (grown_below hb11 none) (by simp))
          clear ho11 hb11 G9 O9
          obtain ⟨qa, ca, rfl⟩ := rows_shape P11.out
          obtain ⟨qb, cb, rfl⟩ := rows_shape O11.out
          have EQ := eqC_any qa qb ca cb _ _ w11 (by rw [sortC_len]; omega) (by rw [sortC_len]; omega) (cellsIn_of P11.out).1 (cellsIn_of O11.out).1
          rw [(allEq_cells _ _).2 (by rw [← TE.out]; exact (sortC_congr ON.out SAME.out.rows.symm).symm)] at EQ
          go_wp2_with fail
          refine EQ.mono ?_
          rintro _ w12 ⟨rfl, hx12⟩
          have G12 := Lib.hid (G11.out.ext hx12)
          clear EQ hx12 G11 O11 P11
          go_wp2_with fail
          go_ret
          exact ⟨rfl, ext_trans X2.out G12.out.st.ext⟩
theorem readerSaves_law (q1 : Option Addr) (cp1 : Nat) (l : List Ev) (q2 : Option Addr) (cp2 : Nat) (m : List Ev) (at' : Int) (w : World) (hG : Glob w none0) (hl : l.length ≤ 9223372036854775807) (_ : l.length ≤ cp1) (h1 : evsAt w q1 l) (_ : q1 = none → l.length = 0 ∧ cp1 = 0) (hm : m.length ≤ 9223372036854775807) (_ : m.length ≤ cp2) (h2 : evsAt w q2 m) (_ : q2 = none → m.length = 0 ∧ cp2 = 0) :
    Calls Tryz.prog 6 #[.slice q1 l.length cp1, .slice q2 m.length cp2, .int .i64 at'] w (Res true w) := readerSaves_any q1 cp1 l q2 cp2 m at' w hl hm h1 h2 hG
end Go.Proofs.YtafdigdopeahdaaGreatDoor
namespace Go.Proofs.YtafdigdopeahdaaGreatDoor
open Go.RowKit

theorem own : ownKnob Tryz.prog.godebug = none := by kernel_rfl
theorem gRounds : Tryz.prog.globalNamed "oubliette/sum.rounds" = some 2 := by kernel_rfl
theorem tRounds : (Tryz.prog.globals[2]?).map (·.type) = some 187 := by kernel_rfl
def roundsZ : List Int := roundsL.map fun n : Nat => (n : Int)
theorem rounds_data : (Rows.laid_oubliette_sum_rounds : DataW Unit) = Lib.tabData .u32 roundsZ := rfl
theorem rounds_at : (List.range 64).all (fun i => roundsZ.getD i 0 == val (K256 i)) = true := by decide +kernel
/-- The table stands first on the list. -/
theorem Rounds_of_laid {rest : List (String × DataW Unit)} {W : World} (h : laidMet Tryz.prog (("oubliette/sum.rounds", Rows.laid_oubliette_sum_rounds) :: rest) W) : Rounds W := by
  rw [rounds_data] at h
  have hT := Lib.tabIs_of_head gRounds tRounds Tryz.underlying187 Tryz.underlying151 (by kernel_rfl) (by kernel_rfl) h
  have hc : ∀ i, i < 64 → W.cell? ⟨2, i, none⟩ = some (.int .u32 (val (K256 i))) := fun i hi => by
    have h1 := hT.cell gRounds i (by simpa [roundsZ, roundsL] using hi)
    have h2 := List.all_eq_true.1 rounds_at i (List.mem_range.2 hi)
    rw [h1, eq_of_beq h2]
  exact ⟨block_lt_of_cell (hc 0 (by omega)), hc⟩

theorem rtypeT : (Tryz.prog.cutTypes.find? (·.1 == "internal/reflectlite.rtype")).map (·.2) = some 156 := by kernel_rfl
theorem gErr : Tryz.prog.globalNamed "errors.errorType" = some 0 := by kernel_rfl
theorem errRow : ((List.range 248).filter fun t => Tryz.prog.rowNamed t [101, 114, 114, 111, 114]) = [27] := by kernel_rfl
theorem typesSize : Tryz.prog.types.size = 248 := by kernel_rfl
/-- The handle of the type error. -/
theorem ErrT_of_met {W : World} (h : handlesMet Tryz.prog [("errors.errorType", Rows.laid_errors_errorType)] W) : ErrT W := by
  obtain ⟨name, u, ty, e1, e2, e3, e4, e5⟩ := h _ (List.mem_singleton.2 rfl)
  have en : name = [101, 114, 114, 111, 114] := (Option.some.inj e1).symm
  subst en
  obtain rfl := Option.some.inj (rtypeT.symm.trans e2)
  have hm : ty ∈ (List.range 248).filter fun t => Tryz.prog.rowNamed t [101, 114, 114, 111, 114] := List.mem_filter.2 ⟨List.mem_range.2 (by rw [← typesSize]; exact e3), e4⟩
  rw [errRow] at hm
  obtain rfl := List.mem_singleton.1 hm
  have hh : typeHandle Tryz.prog 27 = rt 27 := by kernel_rfl
  rw [hh] at e5
  have := World.var?_cell gErr e5 0
  simpa [ErrT] using this
theorem ErrT_of_laid {W : World} (h : laidMetH Tryz.prog [("errors.errorType", Rows.laid_errors_errorType)] W) : ErrT W := by
  have h' : laidMet Tryz.prog [] W ∧ handlesMet Tryz.prog [("errors.errorType", Rows.laid_errors_errorType)] W := h
  exact ErrT_of_met h'.2
theorem both_of_laidH {W : World} (h : laidMetH Tryz.prog [("oubliette/sum.rounds", Rows.laid_oubliette_sum_rounds), ("errors.errorType", Rows.laid_errors_errorType)] W) :
    laidMet Tryz.prog [("oubliette/sum.rounds", Rows.laid_oubliette_sum_rounds)] W ∧ handlesMet Tryz.prog [("errors.errorType", Rows.laid_errors_errorType)] W := h
theorem Rounds_of_laidH {W : World} (h : laidMetH Tryz.prog [("oubliette/sum.rounds", Rows.laid_oubliette_sum_rounds), ("errors.errorType", Rows.laid_errors_errorType)] W) : Rounds W := Rounds_of_laid (both_of_laidH h).1
theorem ErrT_of_laidH {W : World} (h : laidMetH Tryz.prog [("oubliette/sum.rounds", Rows.laid_oubliette_sum_rounds), ("errors.errorType", Rows.laid_errors_errorType)] W) : ErrT W := ErrT_of_met (both_of_laidH h).2
end Go.Proofs.YtafdigdopeahdaaGreatDoor
namespace Go.Proofs.YtafdigdopeahdaaGreatDoor
open Go.ChangeShapes Go.WideShapes Go.ChangeAt Go.RowKit

theorem laidOut : laidOutB Tryz.prog = true := by kernel_rfl
theorem byte_int {n : Int} (h : (Lit.int .u8 n).wf = true) : ∃ b : UInt8, n = (b.toNat : Int) := by
  have h2 : 0 ≤ n ∧ n ≤ 255 := by
    simp only [Lit.wf, Bool.and_eq_true, decide_eq_true_eq] at h
    exact ⟨h.1, h.2⟩
  refine ⟨UInt8.ofNat n.toNat, ?_⟩
  rw [UInt8.toNat_ofNat']; omega
/-- A slice of texts is a list of them. -/
theorem texts_of_Trod {H : Type} {enc : TypeId × Value → H} {W : World} {q : Option Addr} {l c : Nat} {d : DataW H} {p : List MemPlace} (h : DataW.Trod enc Tryz.prog W 0 (fun _ => true) true 120 (.slice q l c) d p) :
    ∃ ps : List ByteArray, l = ps.length ∧ textsAt W q ps := by
  obtain ⟨fuel, hf⟩ := h
  rcases open_strings Tryz.underlying120 Tryz.underlying9 (by kernel_rfl) hf with ⟨hcs, hx⟩ | ⟨a, len', cap', ss, hcs, _, hl, hm, hz, hx, hcell, hwz⟩
  · simp [Value.cells] at hcs
    obtain ⟨rfl, rfl, rfl⟩ := hcs
    exact ⟨[], rfl, fun j s hj => by simp at hj⟩
  · simp [Value.cells] at hcs
    obtain ⟨rfl, rfl, rfl⟩ := hcs
    simp only [if_true] at hz
    refine ⟨ss.take l, by rw [List.length_take]; omega, ?_⟩
    intro j s hj
    have hjl : j < l := by
      have := (List.getElem?_eq_some_iff.1 hj).1
      rw [List.length_take] at this; omega
    rw [List.getElem?_take_of_lt hjl] at hj
    obtain ⟨b, off, spot⟩ := a
    have hspot : spot = none := by simpa [Addr.add] using World.cell?_spot (hcell 0 (by omega))
    subst hspot
    have hc := hcell j (by omega)
    rw [add_flat', List.getD_eq_getElem?_getD, hj] at hc
    exact ⟨b, off, rfl, block_lt_of_cell hc, hc⟩
end Go.Proofs.YtafdigdopeahdaaGreatDoor
