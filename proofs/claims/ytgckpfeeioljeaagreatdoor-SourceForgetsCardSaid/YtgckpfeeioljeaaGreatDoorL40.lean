/- SourceForgets's closures, and the library's functions with them (the walks). -/
import Derived.Test.YtgckpfeeioljeaaGreatDoorProg
import Derived.Test.YtgckpfeeioljeaaGreatDoorG22
import Derived.Test.YtgckpfeeioljeaaGreatDoorH36
import Derived.Test.YtgckpfeeioljeaaGreatDoorG28
import Derived.Test.YtgckpfeeioljeaaGreatDoorShelfE
namespace Go.Proofs.YtgckpfeeioljeaaGreatDoor
open Go.RowKit Go.Shelf

theorem txt_is (a b : ByteArray) : decide (txt a = txt b) = (a.toList == b.toList) := by
  rw [ByteArray.toList_eq, ByteArray.toList_eq, Bool.eq_iff_iff, decide_eq_true_eq, beq_iff_eq]
  exact Iff.rfl
theorem cell1' {w : World} {b : Nat} {v : Value} {t : TypeId} {f : Nat × Nat} (h : w.heap[b]? = some (.cells #[v] t f)) : w.cell? ⟨b, 0, none⟩ = some v := by rw [cell_in, h]; rfl
set_option maxRecDepth 100000 in
set_option maxHeartbeats 1000000 in
theorem fg1_any (e : Ev) (s : ByteArray) (jb : Nat) (w : World) (h : w.heap[jb]? = some (.cells #[.string s] 9 (0, 0))) :
    Calls Tryz.prog 31 #[.agg (evVs e).toArray, .pointer (some ⟨jb, 0, none⟩)] w (Res (decide (txt e.subject = txt s)) w) := by
  obtain ⟨k, u, t, r, v⟩ := e
  unfold evVs
  dsimp only
  rw [txt_is]
  have hl := lt_of_heap h
  have hc := cell1' h
  go_enter Tryz.func31, Tryz.ntmps31
  go_wp2_with fail
  go_ret
  exact ⟨rfl, ext_alloc _ (ext_refl w)⟩
/-- ContainsFunc, at events. -/
theorem sfE_any (q : Option Addr) (cp : Nat) (ok : List Ev) (s : ByteArray) (jb : Nat) (w : World) (h : w.heap[jb]? = some (.cells #[.string s] 9 (0, 0))) (he : evsAt w q ok) (hz : ok.length ≤ 1048576) :
    Calls Tryz.prog 28 #[.slice q ok.length cp, .func (.func 31) #[] #[.pointer (some ⟨jb, 0, none⟩)]] w (Res (ok.any fun e => decide (txt e.subject = txt s)) w) :=
  anyE_any (α := Ev) id (fun e => decide (txt e.subject = txt s)) 31 #[.pointer (some ⟨jb, 0, none⟩)] (enters_of Tryz.func31 (by kernel_rfl) rfl) q cp ok w
    (fun W e hB => (fg1_any e s jb W ((hB.block _ (lt_of_heap h)).trans h)).mono fun e w' ⟨h1, h2⟩ => ⟨h1, hB.trans ((ext_iff.1 h2).mono hB.size)⟩) (by omega) (by rw [List.map_id]; exact he)
set_option maxRecDepth 100000 in
set_option maxHeartbeats 1000000 in
theorem fg2_any (c : Cell) (s : ByteArray) (jb : Nat) (w : World) (h : w.heap[jb]? = some (.cells #[.string s] 9 (0, 0))) :
    Calls Tryz.prog 32 #[.agg (cellVs c).toArray, .pointer (some ⟨jb, 0, none⟩)] w (Res (decide (txt c.subject = txt s)) w) := by
  obtain ⟨c1, c2, c3, c4⟩ := c
  unfold cellVs
  dsimp only
  rw [txt_is]
  have hl := lt_of_heap h
  have hc := cell1' h
  go_enter Tryz.func32, Tryz.ntmps32
  go_wp2_with fail
  go_ret
  exact ⟨rfl, ext_alloc _ (ext_refl w)⟩
/-- A row 'zz' of table 'zz'. -/
def zzB (c : Cell) : Bool := (c.table.toList == [122, 122]) && (c.row.toList == [122, 122])
set_option maxRecDepth 100000 in
set_option maxHeartbeats 1000000 in
theorem fg3_any (c : Cell) (w : World) : Calls Tryz.prog 38 #[.agg (cellVs c).toArray] w (Res (zzB c) w) := by
  obtain ⟨c1, c2, c3, c4⟩ := c
  unfold cellVs zzB
  dsimp only
  cases h1 : (c1.toList == [122, 122])
  all_goals
    go_enter Tryz.func38, Tryz.ntmps38
    go_wp2_with fail
    go_ret
    exact ⟨rfl, ext_alloc _ (ext_refl w)⟩
/-- ContainsFunc, at rows. -/
theorem sfC_any (q : Option Addr) (cp : Nat) (l : List Cell) (w : World) (hl : l.length ≤ 1048576) (he : cellsIn w q l) :
    Calls Tryz.prog 37 #[.slice q l.length cp, .func (.func 38) #[] #[]] w (Res (l.any zzB) w) :=
  anyC_any zzB 38 #[] (enters_of Tryz.func38 (by kernel_rfl) rfl) q cp l w
    (fun W c hB => (fg3_any c W).mono fun e w' ⟨h1, h2⟩ => ⟨h1, hB.trans ((ext_iff.1 h2).mono hB.size)⟩) (by omega) he
set_option maxRecDepth 100000 in
set_option maxHeartbeats 1000000 in
/-- A record of an earlier key. -/
theorem fg4_any (r x : Rec) (s : ByteArray) (jb xb : Nat) (w : World) (h : w.heap[jb]? = some (.cells #[.string s] 9 (0, 0))) (hx : w.heap[xb]? = some (.cells (recV x) 55 (0, 0))) (hg : txt r.subject = txt s → r.gen < x.gen) :
    Calls Tryz.prog 40 #[.agg (recV r), .pointer (some ⟨jb, 0, none⟩), .pointer (some ⟨xb, 0, none⟩)] w (Res false w) := by
  obtain ⟨q, u, g, p, b⟩ := r
  have X1 := ext_alloc (.cells #[.int .i64 q, .string u, .int .i64 g, .string p, .string b] 55) (ext_refl w)
  have hb := ext_iff.1 X1
  have H1 := (hb.block _ (lt_of_heap h)).trans h
  have H2 := (hb.block _ (lt_of_heap hx)).trans hx
  have hl := lt_of_heap H1
  have hc := cell1' H1
  have hl2 := lt_of_heap H2
  obtain ⟨d0, d1, d2, d3, d4⟩ := rec_cells H2
  unfold recV
  dsimp only at hg ⊢
  clear H1 H2 h hx hb X1
  cases hs : (u.toList == s.toList) with
  | false =>
    go_enter Tryz.func40, Tryz.ntmps40
    go_wp2_with fail
    go_ret
    exact ⟨rfl, ext_alloc _ (ext_refl w)⟩
  | true =>
    have hlt := hg (of_decide_eq_true ((txt_is u s).trans hs))
    have hd : decide (g ≥ x.gen) = false := decide_eq_false (by omega)
    go_enter Tryz.func40, Tryz.ntmps40
    go_wp2_with fail
    go_ret
    exact ⟨rfl, ext_alloc _ (ext_refl w)⟩
set_option maxRecDepth 100000 in
set_option maxHeartbeats 4000000 in
/-- ContainsFunc, at records: none is such a one. -/
theorem sfR_idx (q : Option Addr) (cp : Nat) (L : List Rec) (x : Rec) (s : ByteArray) (jb xb : Nat) (w : World) (hz : L.length ≤ 1000) (h : w.heap[jb]? = some (.cells #[.string s] 9 (0, 0))) (hx : w.heap[xb]? = some (.cells (recV x) 55 (0, 0))) (hr : recsAt w q L) (hg : ∀ r ∈ L, txt r.subject = txt s → r.gen < x.gen) :
    Calls Tryz.prog 61 #[.slice q L.length cp, .func (.func 40) #[] #[.pointer (some ⟨jb, 0, none⟩), .pointer (some ⟨xb, 0, none⟩)]] w fun e w' => e = .returned (.int .i64 (-1)) ∧ ∃ y, w' = ext w y := by
  have RR := Lib.hid hr
  have HG := Lib.hid hg
  have F4 := Lib.hid (fun W (hW : ∃ z, W = ext w z) (r : Rec) (hr : r ∈ L) => fg4_any r x s jb xb W (((ext_iff.1 hW).block _ (lt_of_heap h)).trans h) (((ext_iff.1 hW).block _ (lt_of_heap hx)).trans hx) (hg r hr))
  clear hr hg h hx
  go_enter Tryz.func61, Tryz.ntmps61
  go_wp2_with fail
  go_loopw [8] (fun iv wr => ∃ k : Nat, k ≤ L.length ∧ iv = .int .i64 k ∧ Hid (∃ z, wr = ext w z)) (fun iv _ => L.length - (intOf iv).toNat)
  case atStart => exact ⟨0, Nat.zero_le _, rfl, Lib.hid (ext_refl w)⟩
  case round =>
    obtain ⟨k, hk, rfl, XX⟩ := hrel
    by_cases hlt : k < L.length
    · have hlt' : (k : Int) < L.length := by omega
      have hx := List.getElem?_eq_getElem hlt
      have CL := F4.out _ XX.out _ (List.getElem_mem hlt)
      have hb := ext_iff.1 XX.out
      obtain ⟨g, o, rfl, e0, e1, e2, e3, e4, hg⟩ := recsAt_row (recsAt_of RR.out (fun k hk => hb.block k hk) hb.size) hx
      generalize L[k] = r at hx CL e0 e1 e2 e3 e4
      clear hx hb
      obtain ⟨q0, u0, g0, p0, b0⟩ := r
      unfold recV at CL
      dsimp only at CL e0 e1 e2 e3 e4
      go_wp2_with fail
      refine CL.mono ?_
      rintro _ w5 ⟨rfl, hx5⟩
      have X5 := Lib.hid (ext_trans XX.out hx5)
      clear CL hx5 e0 e1 e2 e3 e4 XX
      go_wp2_with fail
      go_roundw
      case rel => exact ⟨k + 1, hlt, by go_num, X5⟩
      case measure => simp [intOf]; omega
    · obtain rfl : k = L.length := by omega
      go_wp2_with fail
      go_ret
      exact ⟨rfl, XX.out⟩
set_option maxRecDepth 100000 in
theorem sfR_any (q : Option Addr) (cp : Nat) (L : List Rec) (x : Rec) (s : ByteArray) (jb xb : Nat) (w : World) (hz : L.length ≤ 1000) (h : w.heap[jb]? = some (.cells #[.string s] 9 (0, 0))) (hx : w.heap[xb]? = some (.cells (recV x) 55 (0, 0))) (hr : recsAt w q L) (hg : ∀ r ∈ L, txt r.subject = txt s → r.gen < x.gen) :
    Calls Tryz.prog 39 #[.slice q L.length cp, .func (.func 40) #[] #[.pointer (some ⟨jb, 0, none⟩), .pointer (some ⟨xb, 0, none⟩)]] w (Res false w) := by
  have IX := sfR_idx q cp L x s jb xb w hz h hx hr hg
  clear h hx hr hg
  go_enter Tryz.func39, Tryz.ntmps39
  go_wp2_with fail
  refine IX.mono ?_
  rintro _ w5 ⟨rfl, hx5⟩
  have X5 := Lib.hid hx5
  clear hx5 IX
  go_wp2_with fail
  go_ret
  exact ⟨rfl, X5.out⟩
end Go.Proofs.YtgckpfeeioljeaaGreatDoor
