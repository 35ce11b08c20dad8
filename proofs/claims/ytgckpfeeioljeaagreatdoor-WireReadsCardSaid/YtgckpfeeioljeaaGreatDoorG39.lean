/- package wire's reader: one (the walk). -/
import Derived.Laws.BitsLemmas
import Derived.Test.YtgckpfeeioljeaaGreatDoorProg
import Derived.Test.YtgckpfeeioljeaaGreatDoorG38
import Derived.Test.YtgckpfeeioljeaaGreatDoorInv
namespace Go.Proofs.YtgckpfeeioljeaaGreatDoor
open Go.RowKit

theorem or8 (a b : Nat) (ha : a ≤ 255) (hb : b ≤ 255) : bits .or .i64 ((a : Int) * 256) (b : Int) = ((a * 256 + b : Nat) : Int) := by
  have hk : ∀ n : Int, 0 ≤ n → n < 2 ^ 62 → IntKind.i64.wrap n = n := fun n h0 h1 => by
    have e : n % 2 ^ 64 = n := Int.emod_eq_of_lt h0 (by omega)
    simp only [IntKind.wrap, IntKind.bits, IntKind.signed, e]
    rw [if_neg]
    simp
    omega
  rw [bits_join .i64 62 (by decide) hk 8 _ _ (by omega) (by omega) (by omega) (by omega) (by omega) (by omega)]
  omega
theorem Rounds_reader {w wk : World} {rb : Nat} {st : St} (h : Rounds w) (hr : readerAt w rb st) (g : w.grownBy wk (some rb)) : Rounds wk := by
  have hne : 2 ≠ rb := by
    intro e
    have h1 := h.2 0 (by decide)
    have c := (reader_cells hr).1
    rw [← e, h1] at c
    cases c
  exact ⟨Nat.lt_of_lt_of_le h.1 g.size, fun i hi => by
    have := h.2 i hi
    rw [cell_in] at this ⊢
    rw [g.block _ h.1 (fun e => by injection e with e; exact hne e)]; exact this⟩
/-! region 7 -/
theorem Hold.stored {w : World} {rb : Nat} {st : St} {zb : Nat} {Z Z' : Array Value} {eb : Nat} {V : Array Value} {wk w' : World} (h : Hold w rb st zb Z eb V wk) (hzr : zb ≠ rb) (hze : zb ≠ eb) (hwz : w.heap.size ≤ zb)
    (h' : w'.heap[zb]? = some (.cells Z' 55 (0, 0))) (g : wk.grownBy w' (some zb)) : Hold w rb st zb Z' eb V w' :=
  ⟨(g.block rb (lt_of_heap (show wk.heap[rb]? = _ from h.rd)) (by intro e; injection e with e; exact hzr e.symm)).trans h.rd, h', (g.block eb (lt_of_heap h.ev) (by intro e; injection e with e; exact hze e.symm)).trans h.ev, grown_new h.gr g hwz⟩
/-- The frame of one's last region. -/
def frO (rb zb eb : Nat) (m : List UInt8) (o g : Nat → Value) : Act := { tmps := #[.pointer (some ⟨rb, 0, none⟩), o 1, .pointer (some ⟨zb, 0, none⟩), g 3, .string (mkS m), .pointer (some ⟨eb, 0, none⟩), o 6, o 7, o 8, o 9, o 10, o 11, o 12, o 13, o 14, o 15, o 16, o 17, o 18, o 19, o 20, o 21, o 22, o 23, o 24, o 25, o 26, o 27, o 28, o 29, o 30, o 31, o 32, g 33, g 34, g 35, g 36, g 37, g 38, g 39, g 40, g 41, g 42, g 43, g 44, g 45, g 46, g 47, g 48], defers := [] }
def dstO (i : Nat) : Nat := ([33, 34, 35, 36, 37, 38, 39, 40, 41, 42, 43, 44, 45, 46, 47, 48, 1016, 3] : List Nat).getD i (2000 + i)
/-- What each operation lays. -/
def laysO (rb : Nat) (cq : Nat) (u : List UInt8) (cg : Nat) (pv y m mk : List UInt8) (b9 fit : Bool) (j : Nat) (v : Value) (_ : World) : Prop :=
  match j with
  | 0 => v = .agg #[.int .i64 cq, .string (mkS u), .int .i64 cg, .string (mkS pv), .string (mkS y)]
  | 1 => v = .pointer (some ⟨rb, 0, none⟩)
  | 2 => v = .pointer (some ⟨rb, 0, none⟩)
  | 3 => v = .pointer (some ⟨rb, 1, none⟩)
  | 4 => v = .bool b9
  | 5 => v = .bool (!b9)
  | 6 => v = .bool (!b9)
  | 7 => b9 = false → v = .agg #[.int .i64 cq, .string (mkS u), .int .i64 cg, .string (mkS pv), .string (mkS y)]
  | 8 => b9 = false → v = .bool fit
  | 9 => v = .bool (!b9 && fit)
  | 10 => v = .bool (!b9 && fit)
  | 11 => (!b9 && fit) = true → v = .agg #[.int .i64 cq, .string (mkS u), .int .i64 cg, .string (mkS pv), .string (mkS y)]
  | 12 => (!b9 && fit) = true → v = .string ⟨mk.toArray⟩
  | 13 => (!b9 && fit) = true → v = .string (mkS m)
  | 14 => (!b9 && fit) = true → v = .bool (mk == (mkS m).toList)
  | 15 => v = .bool (!b9 && fit && (mk == (mkS m).toList))
  | 17 => v = .bool (!b9 && fit && (mk == (mkS m).toList))
  | _ => True
/-- What stands in memory. -/
def stateO (w0 : World) (rb : Nat) (st : St) (zb eb : Nat) (V : Array Value) (L : Nat → Bool) (_ : Nat → Value) (w : World) : Prop :=
  (L 16 = true → L 0 = true) ∧ Hold w0 rb st zb (if L 16 = true then V else #[.int .i64 0, .string ⟨#[]⟩, .int .i64 0, .string ⟨#[]⟩, .string ⟨#[]⟩]) eb V w
/-! one, walked -/
set_option maxRecDepth 100000 in
set_option maxHeartbeats 4000000 in
theorem one_any (st : St) (hl : st.s.length ≤ 1048576) (rb : Nat) (w : World) (h : readerAt w rb st) (hR : Rounds w) :
    Calls Tryz.prog 71 #[.pointer (some ⟨rb, 0, none⟩)] w fun r w' => r = .returned (.tuple #[.agg (recV (oneL st).2.1), .bool (okOne st)]) ∧ readerAt w' rb (oneL st).2.2 ∧ w.grownBy w' (some rb) := by
  have R := Lib.hid hR
  have HR := Lib.hid h
  have hrb := lt_of_heap (show w.heap[rb]? = _ from h)
  clear hR h
  obtain ⟨ok, OK⟩ : ∃ ok, okOne st = ok := ⟨_, rfl⟩
  rw [OK]
  unfold okOne at OK
  unfold oneL at OK ⊢
  dsimp only at OK ⊢
  have T1 := fun w h => take_any 16 (by decide) st (by omega) rb w h
  have L1 := Lib.hid (take_size 16 st)
  generalize takeL 16 st = t1 at T1 L1 OK ⊢
  obtain ⟨m, st1⟩ := t1
  dsimp only at T1 L1 OK ⊢
  have hl1 : st1.s.length ≤ 1048576 := Nat.le_trans L1.out.1 hl
  have T2 := fun w h => byte_any st1 (by omega) rb w h
  have L2 := Lib.hid (byte_size st1)
  generalize byteL st1 = t2 at T2 L2 OK ⊢
  obtain ⟨cq, st2⟩ := t2
  dsimp only at T2 L2 OK ⊢
  have hl2 : st2.s.length ≤ 1048576 := Nat.le_trans L2.out.1 hl1
  have T3 := fun w h => byte_any st2 (by omega) rb w h
  have L3 := Lib.hid (byte_size st2)
  generalize byteL st2 = t3 at T3 L3 OK ⊢
  obtain ⟨cl, st3⟩ := t3
  dsimp only at T3 L3 OK ⊢
  have hl3 : st3.s.length ≤ 1048576 := Nat.le_trans L3.out.1 hl2
  have T4 := fun w h => take_any cl (by have := L3.out.2; omega) st3 (by omega) rb w h
  have L4 := Lib.hid (take_size cl st3)
  generalize takeL cl st3 = t4 at T4 L4 OK ⊢
  obtain ⟨u, st4⟩ := t4
  dsimp only at T4 L4 OK ⊢
  have hl4 : st4.s.length ≤ 1048576 := Nat.le_trans L4.out.1 hl3
  have T5 := fun w h => byte_any st4 (by omega) rb w h
  have L5 := Lib.hid (byte_size st4)
  generalize byteL st4 = t5 at T5 L5 OK ⊢
  obtain ⟨cg, st5⟩ := t5
  dsimp only at T5 L5 OK ⊢
  have hl5 : st5.s.length ≤ 1048576 := Nat.le_trans L5.out.1 hl4
  have T6 := fun w h => take_any 16 (by decide) st5 (by omega) rb w h
  have L6 := Lib.hid (take_size 16 st5)
  generalize takeL 16 st5 = t6 at T6 L6 OK ⊢
  obtain ⟨pv, st6⟩ := t6
  dsimp only at T6 L6 OK ⊢
  have hl6 : st6.s.length ≤ 1048576 := Nat.le_trans L6.out.1 hl5
  have T7 := fun w h => byte_any st6 (by omega) rb w h
  have L7 := Lib.hid (byte_size st6)
  generalize byteL st6 = t7 at T7 L7 OK ⊢
  obtain ⟨c1, st7⟩ := t7
  dsimp only at T7 L7 OK ⊢
  have hl7 : st7.s.length ≤ 1048576 := Nat.le_trans L7.out.1 hl6
  have T8 := fun w h => byte_any st7 (by omega) rb w h
  have L8 := Lib.hid (byte_size st7)
  generalize byteL st7 = t8 at T8 L8 OK ⊢
  obtain ⟨c2, st8⟩ := t8
  dsimp only at T8 L8 OK ⊢
  have hl8 : st8.s.length ≤ 1048576 := Nat.le_trans L8.out.1 hl7
  have T9 := fun w h => take_any (c1 * 256 + c2) (by have := L7.out.2; have := L8.out.2; omega) st8 (by omega) rb w h
  have L9 := Lib.hid (take_size (c1 * 256 + c2) st8)
  generalize takeL (c1 * 256 + c2) st8 = t9 at T9 L9 OK ⊢
  obtain ⟨y, st9⟩ := t9
  dsimp only at T9 L9 OK ⊢
  have HC := Lib.hid (show c1 ≤ 255 ∧ c2 ≤ 255 from ⟨L7.out.2, L8.out.2⟩)
  have FM := fun w h => fmark_any ⟨cq, mkS u, cg, mkS pv, mkS y⟩ w (by dsimp only; rw [mkS_size, mkS_size, mkS_size]; have := L4.out.2; have := L6.out.2; have := L9.out.2; omega) h
  have WR := fun w => wright_any ⟨cq, mkS u, cg, mkS pv, mkS y⟩ w (by dsimp only; rw [mkS_size]; have := L4.out.2; omega)
  generalize mkB ⟨cq, mkS u, cg, mkS pv, mkS y⟩ = mk at FM OK
  generalize fitB ⟨cq, mkS u, cg, mkS pv, mkS y⟩ = fit at WR OK
  clear L1 L2 L3 L4 L5 L6 L7 L8 L9 hl hl1 hl2 hl3 hl4 hl5 hl6 hl7 hl8
  unfold recV at FM WR ⊢
  dsimp only at FM WR ⊢
  go_enter Tryz.func71, Tryz.ntmps71
  go_wp2_with fail
  have HZ : Hid ((w.alloc (.cells #[.int .i64 0, .string ⟨#[]⟩, .int .i64 0, .string ⟨#[]⟩, .string ⟨#[]⟩] 55)).heap[w.heap.size]? = some (.cells #[.int .i64 0, .string ⟨#[]⟩, .int .i64 0, .string ⟨#[]⟩, .string ⟨#[]⟩] 55 (0, 0))) := Lib.hid (heap_alloc_at _ _)
  have R0 : Hid (readerAt (w.alloc (.cells #[.int .i64 0, .string ⟨#[]⟩, .int .i64 0, .string ⟨#[]⟩, .string ⟨#[]⟩] 55)) rb st) := Lib.hid ((heap_alloc_old _ _ hrb).trans HR.out)
  have G0 := Lib.hid (World.grownBy_alloc w (.cells #[.int .i64 0, .string ⟨#[]⟩, .int .i64 0, .string ⟨#[]⟩, .string ⟨#[]⟩] 55) (some rb))
  generalize hzb : w.heap.size = zb at *
  generalize w.alloc (.cells #[.int .i64 0, .string ⟨#[]⟩, .int .i64 0, .string ⟨#[]⟩, .string ⟨#[]⟩] 55) = w0 at HZ R0 G0 ⊢
  refine (T1 _ R0.out).mono ?_
  rintro _ w1 ⟨rfl, r1, g1⟩
  have HZ1 := (g1.block zb (lt_of_heap HZ.out) (by intro e; injection e with e; omega)).trans HZ.out
  have G1 := G0.out.trans g1
  have hs1 := Nat.le_trans (lt_of_heap HZ.out) g1.size
  clear R0 G0 HZ g1 T1
  go_wp2_with fail
  refine (T2 _ r1).mono ?_
  rintro _ w2 ⟨rfl, r2, g2⟩
  have HZ2 := (g2.block zb (lt_of_heap HZ1) (by intro e; injection e with e; omega)).trans HZ1
  have G2 := G1.trans g2
  have hs2 := Nat.le_trans hs1 g2.size
  clear G1 HZ1 g2 hs1 r1 T2
  go_wp2_with fail
  have K3 : Hid (Hold w rb st2 zb #[.int .i64 0, .string ⟨#[]⟩, .int .i64 0, .string ⟨#[]⟩, .string ⟨#[]⟩] w2.heap.size #[.int .i64 cq, .string ⟨#[]⟩, .int .i64 0, .string ⟨#[]⟩, .string ⟨#[]⟩] (w2.alloc (.cells #[.int .i64 cq, .string ⟨#[]⟩, .int .i64 0, .string ⟨#[]⟩, .string ⟨#[]⟩] 55))) :=
    Lib.hid ⟨(heap_alloc_old _ _ (lt_of_heap (show w2.heap[rb]? = _ from r2))).trans r2, (heap_alloc_old _ _ (lt_of_heap HZ2)).trans HZ2, heap_alloc_at _ _, G2.trans (World.grownBy_alloc w2 _ (some rb))⟩
  have hze : zb ≠ w2.heap.size := by omega
  have hre : rb ≠ w2.heap.size := by omega
  have hne : w.heap.size ≤ w2.heap.size := by omega
  generalize hw2 : w2.heap.size = eb at K3 hze hre hne ⊢
  generalize w2.alloc (.cells #[.int .i64 cq, .string ⟨#[]⟩, .int .i64 0, .string ⟨#[]⟩, .string ⟨#[]⟩] 55) = w3 at K3 ⊢
  have hzr : zb ≠ rb := by omega
  have her : eb ≠ rb := by omega
  have hwz : w.heap.size ≤ zb := by omega
  clear HZ2 G2 r2 hs2 hw2
  refine (T3 _ K3.out.rd).mono ?_
  rintro _ w4 ⟨rfl, r4, g4⟩
  have K4 := Lib.hid (K3.out.call hzr her r4 g4)
  clear r4 g4 K3 T3
  go_wp2_with fail
  refine (T4 _ K4.out.rd).mono ?_
  rintro _ w5 ⟨rfl, r5, g5⟩
  have K5 := Lib.hid (K4.out.call hzr her r5 g5)
  clear r5 g5 K4 T4
  obtain ⟨c0, d1, c2, c3, c4⟩ := rec_cells (r := ⟨cq, ⟨#[]⟩, 0, ⟨#[]⟩, ⟨#[]⟩⟩) K5.out.ev
  have ff := free_of_heap K5.out.ev
  dsimp only at c0 d1 c2 c3 c4
  go_wp2_with fail
  have K6 := Lib.hid (K5.out.set hze hre hne 1 (.string (mkS u)))
  generalize w5.setCell ⟨eb, 1, none⟩ (.string (mkS u)) = w6 at K6 ⊢
  clear K5 c0 d1 c2 c3 c4 ff
  refine (T5 _ K6.out.rd).mono ?_
  rintro _ w7 ⟨rfl, r7, g7⟩
  have K7 := Lib.hid (K6.out.call hzr her r7 g7)
  clear r7 g7 K6 T5
  go_wp2_with fail
  refine (T6 _ K7.out.rd).mono ?_
  rintro _ w8 ⟨rfl, r8, g8⟩
  have K8 := Lib.hid (K7.out.call hzr her r8 g8)
  clear r8 g8 K7 T6
  obtain ⟨c0, d1, c2, c3, c4⟩ := rec_cells (r := ⟨cq, mkS u, 0, ⟨#[]⟩, ⟨#[]⟩⟩) K8.out.ev
  have ff := free_of_heap K8.out.ev
  dsimp only at c0 d1 c2 c3 c4
  go_wp2_with fail
  have K9 := Lib.hid ((K8.out.set hze hre hne 2 (.int .i64 cg)).set hze hre hne 3 (.string (mkS pv)))
  generalize (w8.setCell ⟨eb, 2, none⟩ (.int .i64 cg)).setCell ⟨eb, 3, none⟩ (.string (mkS pv)) = w9 at K9 ⊢
  clear K8 c0 d1 c2 c3 c4 ff
  refine (T7 _ K9.out.rd).mono ?_
  rintro _ w10 ⟨rfl, r10, g10⟩
  have K10 := Lib.hid (K9.out.call hzr her r10 g10)
  clear r10 g10 K9 T7
  have hw1 : wrap64 ((c1 : Int) * 256) = (c1 : Int) * 256 := by have := HC.out.1; unfold wrap64; omega
  go_wp2_with fail
  refine (T8 _ K10.out.rd).mono ?_
  rintro _ w11 ⟨rfl, r11, g11⟩
  have K11 := Lib.hid (K10.out.call hzr her r11 g11)
  clear r11 g11 K10 T8
  go_wp2_with fail
  rw [or8 c1 c2 HC.out.1 HC.out.2]
  refine (T9 _ K11.out.rd).mono ?_
  rintro _ w12 ⟨rfl, r12, g12⟩
  have K12 := Lib.hid (K11.out.call hzr her r12 g12)
  clear r12 g12 K11 T9
  obtain ⟨c0, d1, d2, c3, c4⟩ := rec_cells (r := ⟨cq, mkS u, cg, mkS pv, ⟨#[]⟩⟩) K12.out.ev
  have ff := free_of_heap K12.out.ev
  dsimp only at c0 d1 d2 c3 c4
  go_wp2_with fail
  have K13 := Lib.hid (K12.out.set hze hre hne 4 (.string (mkS y)))
  generalize w12.setCell ⟨eb, 4, none⟩ (.string (mkS y)) = w13 at K13 ⊢
  clear K12 c0 d1 d2 c3 c4 ff
  obtain ⟨c0, d1, d2, c3, c4⟩ := rec_cells (r := ⟨cq, mkS u, cg, mkS pv, mkS y⟩) K13.out.ev
  have ff := free_of_heap K13.out.ev
  dsimp only at c0 d1 d2 c3 c4
  obtain ⟨q0, q1⟩ := reader_cells K13.out.rd
  have R13 := Lib.hid (Rounds_reader R.out HR.out K13.out.gr)
  obtain ⟨s9, b9⟩ := st9
  dsimp only at q0 q1 OK
  refine wp_region_slots (frO rb zb eb m (fun k => (#[.pointer (some ⟨rb, 0, none⟩), undef, .pointer (some ⟨zb, 0, none⟩), .bool false, .string (mkS m), .pointer (some ⟨eb, 0, none⟩), .int .i64 (c1 * 256), .pointer (some ⟨rb, 0, none⟩), .string (mkS m), .pointer (some ⟨rb, 0, none⟩), .int .i64 cq, .agg #[.int .i64 cq, .string ⟨#[]⟩, .int .i64 0, .string ⟨#[]⟩, .string ⟨#[]⟩], .pointer (some ⟨rb, 0, none⟩), .pointer (some ⟨rb, 0, none⟩), .int .i64 cl, .string (mkS u), .pointer (some ⟨eb, 1, none⟩), .pointer (some ⟨rb, 0, none⟩), .int .i64 cg, .pointer (some ⟨rb, 0, none⟩), .string (mkS pv), .pointer (some ⟨eb, 2, none⟩), .pointer (some ⟨eb, 3, none⟩), .pointer (some ⟨rb, 0, none⟩), .int .i64 c1, .int .i64 (c1 * 256), .pointer (some ⟨rb, 0, none⟩), .int .i64 (c1 * 256), .pointer (some ⟨rb, 0, none⟩), .int .i64 c2, .int .i64 (c1 * 256 + c2), .string (mkS y), .pointer (some ⟨eb, 4, none⟩), undef, undef, undef, undef, undef, undef, undef, undef, undef, undef, undef, undef, undef, undef, undef, undef
] : Array Value).getD k undef)) dstO (fun k => (#[.pointer (some ⟨rb, 0, none⟩), undef, .pointer (some ⟨zb, 0, none⟩), .bool false, .string (mkS m), .pointer (some ⟨eb, 0, none⟩), .int .i64 (c1 * 256), .pointer (some ⟨rb, 0, none⟩), .string (mkS m), .pointer (some ⟨rb, 0, none⟩), .int .i64 cq, .agg #[.int .i64 cq, .string ⟨#[]⟩, .int .i64 0, .string ⟨#[]⟩, .string ⟨#[]⟩], .pointer (some ⟨rb, 0, none⟩), .pointer (some ⟨rb, 0, none⟩), .int .i64 cl, .string (mkS u), .pointer (some ⟨eb, 1, none⟩), .pointer (some ⟨rb, 0, none⟩), .int .i64 cg, .pointer (some ⟨rb, 0, none⟩), .string (mkS pv), .pointer (some ⟨eb, 2, none⟩), .pointer (some ⟨eb, 3, none⟩), .pointer (some ⟨rb, 0, none⟩), .int .i64 c1, .int .i64 (c1 * 256), .pointer (some ⟨rb, 0, none⟩), .int .i64 (c1 * 256), .pointer (some ⟨rb, 0, none⟩), .int .i64 c2, .int .i64 (c1 * 256 + c2), .string (mkS y), .pointer (some ⟨eb, 4, none⟩), undef, undef, undef, undef, undef, undef, undef, undef, undef, undef, undef, undef, undef, undef, undef, undef
] : Array Value).getD k undef) (laysO rb cq u cg pv y m mk b9 fit) (stateO w rb ⟨s9, b9⟩ zb eb (recV ⟨cq, mkS u, cg, mkS pv, mkS y⟩)) (fun _ _ => True) (by kernel_rfl) (by kernel_rfl) rfl (fun j v _ _ _ h => h) (by kernel_rfl) ?_ ?_ ?_
  · exact ⟨by simp, K13.out.rd, K13.out.zr, K13.out.ev, K13.out.gr.os, K13.out.gr.tape, K13.out.gr.output, K13.out.gr.size, K13.out.gr.block⟩
  · clear K13 c0 d1 d2 c3 c4 ff q0 q1 R13
    refine ⟨?_, ?_, ?_, ?_, ?_, ?_, ?_, ?_, ?_, ?_, ?_, ?_, ?_, ?_, ?_, ?_, ?_, ?_, trivial⟩
    all_goals (intro L g w1 hLi hdeps hR hC; refine ends_of fun Q hQ => ?_)
    · obtain ⟨c0, c1, c2, c3, c4⟩ := rec_cells (r := ⟨cq, mkS u, cg, mkS pv, mkS y⟩) hC.2.ev
      dsimp only at c0 c1 c2 c3 c4
      unfold frO
      go_wp2_with fail
      exact hQ.out _ _ ⟨.agg #[.int .i64 cq, .string (mkS u), .int .i64 cg, .string (mkS pv), .string (mkS y)], rfl, trivial, rfl, ⟨fun _ => rfl, hC.2⟩⟩
    · unfold frO
      go_wp2_with fail
      exact hQ.out _ _ ⟨.pointer (some ⟨rb, 0, none⟩), rfl, trivial, rfl, hC⟩
    · have r1 : g 34 = .pointer (some ⟨rb, 0, none⟩) := hR 1 (hdeps ⟨1, .data⟩ (by simp) rfl)
      unfold frO
      go_wp2_with fail
      exact hQ.out _ _ ⟨.pointer (some ⟨rb, 0, none⟩), by rw [← upd1_id r1]; rfl, trivial, rfl, hC⟩
    · have r2 : g 35 = .pointer (some ⟨rb, 0, none⟩) := hR 2 (hdeps ⟨2, .data⟩ (by simp) rfl)
      unfold frO
      go_wp2_with fail
      exact hQ.out _ _ ⟨.pointer (some ⟨rb, 1, none⟩), by rw [← upd1_id r2]; rfl, trivial, rfl, hC⟩
    · have r3 : g 36 = .pointer (some ⟨rb, 1, none⟩) := hR 3 (hdeps ⟨3, .data⟩ (by simp) rfl)
      have q1 := (reader_cells hC.2.rd).2
      dsimp only at q1
      unfold frO
      go_wp2_with fail
      exact hQ.out _ _ ⟨.bool b9, by rw [← upd1_id r3]; rfl, trivial, rfl, hC⟩
    · have r4 : g 37 = .bool b9 := hR 4 (hdeps ⟨4, .data⟩ (by simp) rfl)
      unfold frO
      go_wp2_with fail
      exact hQ.out _ _ ⟨.bool (!b9), by rw [← upd1_id r4]; rfl, trivial, rfl, hC⟩
    · have r5 : g 38 = .bool (!b9) := hR 5 (hdeps ⟨5, .data⟩ (by simp) rfl)
      unfold frO
      go_wp2_with fail
      exact hQ.out _ _ ⟨.bool (!b9), by rw [← upd1_id r5]; rfl, trivial, rfl, hC⟩
    · cases b9
      · have r6 : g 39 = .bool true := hR 6 (hdeps ⟨6, .guard⟩ (by simp) rfl)
        obtain ⟨c0, c1, c2, c3, c4⟩ := rec_cells (r := ⟨cq, mkS u, cg, mkS pv, mkS y⟩) hC.2.ev
        dsimp only at c0 c1 c2 c3 c4
        unfold frO
        go_wp2_with fail
        exact hQ.out _ _ ⟨.agg #[.int .i64 cq, .string (mkS u), .int .i64 cg, .string (mkS pv), .string (mkS y)], by rw [← upd1_id r6]; rfl, trivial, fun _ => rfl, hC⟩
      · have r6 : g 39 = .bool false := hR 6 (hdeps ⟨6, .guard⟩ (by simp) rfl)
        unfold frO
        go_wp2_with fail
        exact hQ.out _ _ ⟨undef, by rw [← upd1_id r6]; rfl, trivial, (fun h => by cases h), hC⟩
    · cases b9
      · have r6 : g 39 = .bool true := hR 6 (hdeps ⟨6, .guard⟩ (by simp) rfl)
        have r7 : g 40 = .agg #[.int .i64 cq, .string (mkS u), .int .i64 cg, .string (mkS pv), .string (mkS y)] := hR 7 (hdeps ⟨7, .data⟩ (by simp) rfl) rfl
        unfold frO
        go_wp2_with fail
        refine (WR _).mono ?_
        rintro _ w2 ⟨rfl, hx⟩
        go_wp2_with fail
        exact hQ.out _ _ ⟨.bool fit, by rw [← upd1_id r6, ← upd1_id r7]; rfl, trivial, fun _ => rfl, hC.1, hC.2.ext hx⟩
      · have r6 : g 39 = .bool false := hR 6 (hdeps ⟨6, .guard⟩ (by simp) rfl)
        unfold frO
        go_wp2_with fail
        exact hQ.out _ _ ⟨undef, by rw [← upd1_id r6]; rfl, trivial, (fun h => by cases h), hC⟩
    · have r6 : g 39 = .bool (!b9) := hR 6 (hdeps ⟨6, .data⟩ (by simp) rfl)
      cases b9
      · have r8 : g 41 = .bool fit := hR 8 (hdeps ⟨8, .data⟩ (by simp) rfl) rfl
        unfold frO
        go_wp2_with fail
        exact hQ.out _ _ ⟨.bool fit, by rw [← upd1_id r6, ← upd1_id r8]; rfl, trivial, rfl, hC⟩
      · unfold frO
        go_wp2_with fail
        exact hQ.out _ _ ⟨.bool false, by rw [← upd1_id r6]; rfl, trivial, rfl, hC⟩
    · have r9 : g 42 = .bool (!b9 && fit) := hR 9 (hdeps ⟨9, .data⟩ (by simp) rfl)
      unfold frO
      go_wp2_with fail
      exact hQ.out _ _ ⟨.bool (!b9 && fit), by rw [← upd1_id r9]; rfl, trivial, rfl, hC⟩
    · cases hk : (!b9 && fit)
      · have r10 : g 43 = .bool false := by have := hR 10 (hdeps ⟨10, .guard⟩ (by simp) rfl); rw [show laysO rb cq u cg pv y m mk b9 fit 10 (g (dstO 10)) w1 = (g 43 = .bool (!b9 && fit)) from rfl, hk] at this; exact this
        unfold frO
        go_wp2_with fail
        exact hQ.out _ _ ⟨undef, by rw [← upd1_id r10]; rfl, trivial, (fun h => by rw [hk] at h; cases h), hC⟩
      · have r10 : g 43 = .bool true := by have := hR 10 (hdeps ⟨10, .guard⟩ (by simp) rfl); rw [show laysO rb cq u cg pv y m mk b9 fit 10 (g (dstO 10)) w1 = (g 43 = .bool (!b9 && fit)) from rfl, hk] at this; exact this
        obtain ⟨c0, c1, c2, c3, c4⟩ := rec_cells (r := ⟨cq, mkS u, cg, mkS pv, mkS y⟩) hC.2.ev
        dsimp only at c0 c1 c2 c3 c4
        unfold frO
        go_wp2_with fail
        exact hQ.out _ _ ⟨.agg #[.int .i64 cq, .string (mkS u), .int .i64 cg, .string (mkS pv), .string (mkS y)], by rw [← upd1_id r10]; rfl, trivial, fun _ => rfl, hC⟩
    · cases hk : (!b9 && fit)
      · have r10 : g 43 = .bool false := by have := hR 10 (hdeps ⟨10, .guard⟩ (by simp) rfl); rw [show laysO rb cq u cg pv y m mk b9 fit 10 (g (dstO 10)) w1 = (g 43 = .bool (!b9 && fit)) from rfl, hk] at this; exact this
        unfold frO
        go_wp2_with fail
        exact hQ.out _ _ ⟨undef, by rw [← upd1_id r10]; rfl, trivial, (fun h => by rw [hk] at h; cases h), hC⟩
      · have r10 : g 43 = .bool true := by have := hR 10 (hdeps ⟨10, .guard⟩ (by simp) rfl); rw [show laysO rb cq u cg pv y m mk b9 fit 10 (g (dstO 10)) w1 = (g 43 = .bool (!b9 && fit)) from rfl, hk] at this; exact this
        have r11 : g 44 = .agg #[.int .i64 cq, .string (mkS u), .int .i64 cg, .string (mkS pv), .string (mkS y)] := hR 11 (hdeps ⟨11, .data⟩ (by simp) rfl) hk
        unfold frO
        go_wp2_with fail
        refine (FM _ (Rounds_reader R.out HR.out hC.2.gr)).mono ?_
        rintro _ w2 ⟨rfl, hx⟩
        go_wp2_with fail
        exact hQ.out _ _ ⟨.string ⟨mk.toArray⟩, by rw [← upd1_id r10, ← upd1_id r11]; rfl, trivial, fun _ => rfl, hC.1, hC.2.ext hx⟩
    · cases hk : (!b9 && fit)
      · have r10 : g 43 = .bool false := by have := hR 10 (hdeps ⟨10, .guard⟩ (by simp) rfl); rw [show laysO rb cq u cg pv y m mk b9 fit 10 (g (dstO 10)) w1 = (g 43 = .bool (!b9 && fit)) from rfl, hk] at this; exact this
        unfold frO
        go_wp2_with fail
        exact hQ.out _ _ ⟨undef, by rw [← upd1_id r10]; rfl, trivial, (fun h => by rw [hk] at h; cases h), hC⟩
      · have r10 : g 43 = .bool true := by have := hR 10 (hdeps ⟨10, .guard⟩ (by simp) rfl); rw [show laysO rb cq u cg pv y m mk b9 fit 10 (g (dstO 10)) w1 = (g 43 = .bool (!b9 && fit)) from rfl, hk] at this; exact this
        unfold frO
        go_wp2_with fail
        exact hQ.out _ _ ⟨.string (mkS m), by rw [← upd1_id r10]; rfl, trivial, fun _ => rfl, hC⟩
    · cases hk : (!b9 && fit)
      · have r10 : g 43 = .bool false := by have := hR 10 (hdeps ⟨10, .guard⟩ (by simp) rfl); rw [show laysO rb cq u cg pv y m mk b9 fit 10 (g (dstO 10)) w1 = (g 43 = .bool (!b9 && fit)) from rfl, hk] at this; exact this
        unfold frO
        go_wp2_with fail
        exact hQ.out _ _ ⟨undef, by rw [← upd1_id r10]; rfl, trivial, (fun h => by rw [hk] at h; cases h), hC⟩
      · have r10 : g 43 = .bool true := by have := hR 10 (hdeps ⟨10, .guard⟩ (by simp) rfl); rw [show laysO rb cq u cg pv y m mk b9 fit 10 (g (dstO 10)) w1 = (g 43 = .bool (!b9 && fit)) from rfl, hk] at this; exact this
        have r12 : g 45 = .string ⟨mk.toArray⟩ := hR 12 (hdeps ⟨12, .data⟩ (by simp) rfl) hk
        have r13 : g 46 = .string (mkS m) := hR 13 (hdeps ⟨13, .data⟩ (by simp) rfl) hk
        unfold frO
        go_wp2_with fail
        exact hQ.out _ _ ⟨.bool (mk == (mkS m).toList), by rw [← upd1_id r10, ← upd1_id r12, ← upd1_id r13]; rfl, trivial, fun _ => rfl, hC⟩
    · cases hk : (!b9 && fit)
      · have r10 : g 43 = .bool false := by have := hR 10 (hdeps ⟨10, .data⟩ (by simp) rfl); rw [show laysO rb cq u cg pv y m mk b9 fit 10 (g (dstO 10)) w1 = (g 43 = .bool (!b9 && fit)) from rfl, hk] at this; exact this
        unfold frO
        go_wp2_with fail
        exact hQ.out _ _ ⟨.bool false, by rw [← upd1_id r10]; rfl, trivial, by show _ = Value.bool (!b9 && fit && _); rw [hk]; rfl, hC⟩
      · have r10 : g 43 = .bool true := by have := hR 10 (hdeps ⟨10, .data⟩ (by simp) rfl); rw [show laysO rb cq u cg pv y m mk b9 fit 10 (g (dstO 10)) w1 = (g 43 = .bool (!b9 && fit)) from rfl, hk] at this; exact this
        have r14 : g 47 = .bool (mk == (mkS m).toList) := hR 14 (hdeps ⟨14, .data⟩ (by simp) rfl) hk
        unfold frO
        go_wp2_with fail
        exact hQ.out _ _ ⟨.bool (mk == (mkS m).toList), by rw [← upd1_id r10, ← upd1_id r14]; rfl, trivial, by show _ = Value.bool (!b9 && fit && _); rw [hk]; rfl, hC⟩
    · have r0 : g 33 = .agg #[.int .i64 cq, .string (mkS u), .int .i64 cg, .string (mkS pv), .string (mkS y)] := hR 0 (hdeps ⟨0, .data⟩ (by simp) rfl)
      have hZ := hC.2.zr
      rw [if_neg (by simp [hLi])] at hZ
      have KZ := Lib.hid hC.2
      have hZ := Lib.hid hZ
      obtain ⟨z0, z1, z2, z3, z4⟩ := rec_cells (r := ⟨0, ⟨#[]⟩, 0, ⟨#[]⟩, ⟨#[]⟩⟩) hZ.out
      dsimp only at z0 z1 z2 z3 z4
      have fz := free_of_heap hZ.out
      unfold frO
      go_wp2_with fail
      obtain ⟨S5, U5⟩ := set5r (by rfl) hZ.out ⟨cq, mkS u, cg, mkS pv, mkS y⟩
      dsimp only at S5 U5
      exact hQ.out _ _ ⟨undef, by rw [← upd1_id r0]; rfl, trivial, trivial, fun _ => hdeps ⟨0, .data⟩ (by simp) rfl, KZ.out.stored hzr hze hwz S5 U5⟩
    · have r15 : g 48 = .bool (!b9 && fit && (mk == (mkS m).toList)) := hR 15 (hdeps ⟨15, .data⟩ (by simp) rfl)
      unfold frO
      go_wp2_with fail
      exact hQ.out _ _ ⟨.bool (!b9 && fit && (mk == (mkS m).toList)), by rw [← upd1_id r15]; rfl, trivial, rfl, hC⟩
  · intro L g w3 hL hR hC
    have h17 : g 3 = .bool (!b9 && fit && (mk == (mkS m).toList)) := hR 17 (by simp)
    rw [show (mkS mk).toList = mk from by rw [ByteArray.toList_eq]; rfl] at OK
    rw [OK] at h17
    have hH := hC.2
    rw [if_pos (hL 16 (by simp))] at hH
    have KH := Lib.hid hH
    clear hR hC hH hL
    unfold frO
    rw [h17]
    go_wp2_with fail
    exact ret_cells rfl rfl KH.out.zr Tryz.underlying55 rfl (by kernel_rfl) rfl rfl ⟨rfl, KH.out.rd, KH.out.gr⟩
end Go.Proofs.YtgckpfeeioljeaaGreatDoor
