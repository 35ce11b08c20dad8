/- The document's records as bytes: RightRecord, RecordMark, Write (the walks). · package wire's reader: take, byte, one, Parse (the walks). -/
import Derived.Test.YtgckpfeeioljeaaGreatDoorProg
import Derived.Test.YtgckpfeeioljeaaGreatDoorG36
import Derived.Test.YtgckpfeeioljeaaGreatDoorG37
import Derived.Test.YtgckpfeeioljeaaGreatDoorG12
import Derived.Test.YtgckpfeeioljeaaGreatDoorG14
namespace Go.Proofs.YtgckpfeeioljeaaGreatDoor
open Go.RowKit

end Go.Proofs.YtgckpfeeioljeaaGreatDoor
namespace Go.Proofs.YtgckpfeeioljeaaGreatDoor
open Go.RowKit

/-- A reader in memory. -/
def readerAt (w : World) (rb : Nat) (st : St) : Prop := w.heap[rb]? = some (.cells #[.string (mkS st.s), .bool st.bad] 93 (0, 0))
theorem reader_cells {w : World} {rb : Nat} {st : St} (h : readerAt w rb st) : w.cell? ⟨rb, 0, none⟩ = some (.string (mkS st.s)) ∧ w.cell? ⟨rb, 1, none⟩ = some (.bool st.bad) := by
  constructor <;> (rw [cell_in, h]; rfl)
theorem cut_front (s : List UInt8) (n : Nat) : (mkS s).extract 0 n = mkS (s.take n) := by
  apply ByteArray.ext
  rw [ByteArray.data_extract, ← Array.toList_inj, Array.toList_extract]
  simp [mkS]
theorem cut_back (s : List UInt8) (n : Nat) : (mkS s).extract n s.length = mkS (s.drop n) := by
  apply ByteArray.ext
  rw [ByteArray.data_extract, ← Array.toList_inj, Array.toList_extract]
  simp only [mkS, List.extract_eq_take_drop]
  exact List.take_of_length_le (by simp)
set_option maxRecDepth 100000 in
set_option maxHeartbeats 1000000 in
theorem take_any (n : Nat) (hn : n ≤ 1099511627776) (st : St) (hl : st.s.length ≤ 1099511627776) (rb : Nat) (w : World) (h : readerAt w rb st) :
    Calls Tryz.prog 94 #[.pointer (some ⟨rb, 0, none⟩), .int .i64 n] w fun r w' => r = .returned (.string (mkS (takeL n st).1)) ∧ readerAt w' rb (takeL n st).2 ∧ w.grownBy w' (some rb) := by
  have H := Lib.hid h
  obtain ⟨c0, c1⟩ := reader_cells h
  have f0 := free_of_heap (show w.heap[rb]? = some (.cells #[.string (mkS st.s), .bool st.bad] 93 (0, 0)) from h)
  clear h
  obtain ⟨s, bad⟩ := st
  have hsz : (mkS s).size = s.length := mkS_size s
  unfold takeL
  dsimp only at *
  by_cases hlt : s.length < n
  · rw [if_pos hlt]
    have hlt' : ((mkS s).size : Int) < n := by omega
    go_enter Tryz.func94, Tryz.ntmps94
    go_wp2_with fail
    go_ret
    exact ⟨rfl, heap_setCell H.out _, grown_setCell _ _ _ _⟩
  · rw [if_neg hlt]
    have hge : ¬ ((mkS s).size : Int) < n := by omega
    have hle : (n : Int) ≤ (mkS s).size := by omega
    go_enter Tryz.func94, Tryz.ntmps94
    go_wp2_with fail
    go_ret
    rw [cut_front, cut_back]
    exact ⟨rfl, heap_setCell H.out _, grown_setCell _ _ _ _⟩
set_option maxRecDepth 100000 in
set_option maxHeartbeats 1000000 in
theorem byte_any (st : St) (hl : st.s.length ≤ 1099511627776) (rb : Nat) (w : World) (h : readerAt w rb st) :
    Calls Tryz.prog 95 #[.pointer (some ⟨rb, 0, none⟩)] w fun r w' => r = .returned (.int .i64 (byteL st).1) ∧ readerAt w' rb (byteL st).2 ∧ w.grownBy w' (some rb) := by
  have TK := take_any 1 (by decide) st hl rb w h
  unfold byteL
  clear h
  generalize takeL 1 st = t at TK ⊢
  obtain ⟨t, st'⟩ := t
  dsimp only at TK ⊢
  cases t with
  | nil =>
    have he : (mkS []).toList.isEmpty = true := by rw [ByteArray.toList_eq]; rfl
    go_enter Tryz.func95, Tryz.ntmps95
    go_wp2_with fail
    refine TK.mono ?_
    rintro _ w2 ⟨rfl, hr, hg⟩
    go_wp2_with fail
    go_ret
    exact ⟨rfl, hr, hg⟩
  | cons c t =>
    have he : (mkS (c :: t)).toList.isEmpty = false := by rw [ByteArray.toList_eq]; rfl
    have hz : (mkS (c :: t)).size = t.length + 1 := mkS_size _
    have hg0 : (mkS (c :: t)).get! 0 = c := by simp [mkS, ByteArray.get!]
    go_enter Tryz.func95, Tryz.ntmps95
    go_wp2_with fail
    refine TK.mono ?_
    rintro _ w2 ⟨rfl, hr, hg⟩
    go_wp2_with fail
    go_ret
    have hx : wrap64 (((mkS (c :: t))[0]'(by rw [hz]; omega)).toNat : Int) = c.toNat := by
      have h0 : (mkS (c :: t))[0]'(by rw [hz]; omega) = c := rfl
      rw [h0]
      have := c.toNat_lt
      unfold wrap64; omega
    exact ⟨by rw [hx]; rfl, hr, hg⟩
theorem take_size (n : Nat) (st : St) : (takeL n st).2.s.length ≤ st.s.length ∧ (takeL n st).1.length ≤ st.s.length := by
  unfold takeL; split
  · simp
  · simp; omega
theorem byte_size (st : St) : (byteL st).2.s.length ≤ st.s.length ∧ (byteL st).1 ≤ 255 := by
  refine ⟨(take_size 1 st).1, ?_⟩
  unfold byteL
  dsimp only
  split
  · omega
  · rename_i b _ _; have := b.toNat_lt; omega
def okOne (st : St) : Bool := !(oneL st).2.2.bad && fitB (oneL st).2.1 && ((mkS (mkB (oneL st).2.1)).toList == (mkS (oneL st).1).toList)
theorem set5r {w : World} {b : Nat} {V : Array Value} {t : TypeId} (hs : V.size = 5) (h : w.heap[b]? = some (.cells V t (0, 0))) (r : Rec) :
    (((((w.setCell ⟨b, 0, none⟩ (.int .i64 r.seq)).setCell ⟨b, 1, none⟩ (.string r.subject)).setCell ⟨b, 2, none⟩ (.int .i64 r.gen)).setCell ⟨b, 3, none⟩ (.string r.prev)).setCell ⟨b, 4, none⟩ (.string r.body)).heap[b]? = some (.cells (recV r) t (0, 0)) ∧
    w.grownBy (((((w.setCell ⟨b, 0, none⟩ (.int .i64 r.seq)).setCell ⟨b, 1, none⟩ (.string r.subject)).setCell ⟨b, 2, none⟩ (.int .i64 r.gen)).setCell ⟨b, 3, none⟩ (.string r.prev)).setCell ⟨b, 4, none⟩ (.string r.body)) (some b) := by
  obtain ⟨v0, v1, v2, v3, v4, rfl⟩ : ∃ v0 v1 v2 v3 v4, V = #[v0, v1, v2, v3, v4] := by
    obtain ⟨l⟩ := V
    match l, hs with
    | [a, b, c, d, e], _ => exact ⟨a, b, c, d, e, rfl⟩
  refine ⟨?_, ?_⟩
  · exact heap_setCell (heap_setCell (heap_setCell (heap_setCell (heap_setCell h _) _) _) _) _
  · exact ((((grown_setCell _ _ _ _).trans (grown_setCell _ _ _ _)).trans (grown_setCell _ _ _ _)).trans (grown_setCell _ _ _ _)).trans (grown_setCell _ _ _ _)
/-- The reader, the answer's block, the record's block, while one reads. -/
structure Hold (w : World) (rb : Nat) (st : St) (zb : Nat) (Z : Array Value) (eb : Nat) (V : Array Value) (wk : World) : Prop where
  rd : readerAt wk rb st
  zr : wk.heap[zb]? = some (.cells Z 55 (0, 0))
  ev : wk.heap[eb]? = some (.cells V 55 (0, 0))
  gr : w.grownBy wk (some rb)
theorem Hold.call {w : World} {rb : Nat} {st st' : St} {zb : Nat} {Z : Array Value} {eb : Nat} {V : Array Value} {wk w' : World} (h : Hold w rb st zb Z eb V wk) (hz : zb ≠ rb) (he : eb ≠ rb) (r : readerAt w' rb st') (g : wk.grownBy w' (some rb)) : Hold w rb st' zb Z eb V w' :=
  ⟨r, (g.block zb (lt_of_heap h.zr) (by intro e; injection e with e; exact hz e)).trans h.zr, (g.block eb (lt_of_heap h.ev) (by intro e; injection e with e; exact he e)).trans h.ev, h.gr.trans g⟩
theorem grown_new {w w1 w2 : World} {r : Option Nat} {b : Nat} (h : w.grownBy w1 r) (g : w1.grownBy w2 (some b)) (hb : w.heap.size ≤ b) : w.grownBy w2 r :=
  ⟨g.os.trans h.os, g.tape.trans h.tape, g.output.trans h.output, Nat.le_trans h.size g.size, fun i hi hne => (g.block i (Nat.lt_of_lt_of_le hi h.size) (by intro e; injection e with e; omega)).trans (h.block i hi hne)⟩
theorem Hold.set {w : World} {rb : Nat} {st : St} {zb : Nat} {Z : Array Value} {eb : Nat} {V : Array Value} {wk : World} (h : Hold w rb st zb Z eb V wk) (hz : zb ≠ eb) (hr : rb ≠ eb) (hn : w.heap.size ≤ eb) (i : Nat) (v : Value) :
    Hold w rb st zb Z eb (V.setIfInBounds i v) (wk.setCell ⟨eb, i, none⟩ v) :=
  ⟨((grown_setCell wk eb i v).block rb (lt_of_heap (show wk.heap[rb]? = _ from h.rd)) (by intro e; injection e with e; exact hr e)).trans h.rd,
    ((grown_setCell wk eb i v).block zb (lt_of_heap h.zr) (by intro e; injection e with e; exact hz e)).trans h.zr, heap_setCell h.ev _, grown_new h.gr (grown_setCell wk eb i v) hn⟩
theorem Hold.ext {w : World} {rb : Nat} {st : St} {zb : Nat} {Z : Array Value} {eb : Nat} {V : Array Value} {wk w' : World} (h : Hold w rb st zb Z eb V wk) (hx : ∃ x, w' = ext wk x) : Hold w rb st zb Z eb V w' :=
  ⟨((ext_iff.1 hx).block _ (lt_of_heap (show wk.heap[rb]? = _ from h.rd))).trans h.rd, ((ext_iff.1 hx).block _ (lt_of_heap h.zr)).trans h.zr, ((ext_iff.1 hx).block _ (lt_of_heap h.ev)).trans h.ev,
    ⟨(ext_iff.1 hx).os.trans h.gr.os, (ext_iff.1 hx).tape.trans h.gr.tape, (ext_iff.1 hx).output.trans h.gr.output, Nat.le_trans h.gr.size (ext_iff.1 hx).size, fun i hi hne => ((ext_iff.1 hx).block i (Nat.lt_of_lt_of_le hi h.gr.size)).trans (h.gr.block i hi hne)⟩⟩
end Go.Proofs.YtgckpfeeioljeaaGreatDoor
