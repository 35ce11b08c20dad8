/- event.Parse: the library's calls; what they give. · (*table.Table).Get (the walk). -/
import Derived.Test.YtcbcknfhblamfaaGreatDoorProg
import Derived.Test.YtcbcknfhblamfaaGreatDoorG12
import Derived.Deep.RegionHeld3
import Derived.Laws.ResultCell
import Derived.Laws.Rows
import Derived.Test.YtcbcknfhblamfaaGreatDoorG13
namespace Go.Proofs.YtcbcknfhblamfaaGreatDoor
open Go.RowKit

/-- The library's bound that a search reads. -/
def MaxL (w : World) : Prop := 1 < w.heap.size ∧ ∃ m, w.cell? ⟨1, 0, none⟩ = some (.int .i64 m)
theorem MaxL_of {w w' : World} (h : MaxL w) (hh : ∀ k, k < w.heap.size → w'.heap[k]? = w.heap[k]?) (hs : w.heap.size ≤ w'.heap.size) : MaxL w' :=
  ⟨Nat.lt_of_lt_of_le h.1 hs, by obtain ⟨m, hm⟩ := h.2; exact ⟨m, by rw [cell_in] at hm ⊢; rw [hh _ h.1]; exact hm⟩⟩
theorem MaxL_ext {w w' : World} (h : MaxL w) (hx : ∃ x, w' = ext w x) : MaxL w' := MaxL_of h (fun _ hk => (ext_iff.1 hx).block _ hk) (ext_iff.1 hx).size

theorem split_more (c : UInt8) : ∀ (k : Nat) (l : List UInt8) (j : Nat), l.length ≤ k → k ≤ j → Lib.splitK [c] 0 k l = Lib.splitK [c] 0 j l
  | k, l, j, hl, hj => by
    rcases blank_cases l c with h | ⟨a, b, h, rfl⟩
    · rw [split_whole _ _ _ h, split_whole _ _ _ h]
    · cases k with
      | zero => simp at hl
      | succ k =>
        cases j with
        | zero => omega
        | succ j =>
          rw [split_blank _ _ _ _ h, split_blank _ _ _ _ h]
          simp only [List.length_append, List.length_cons] at hl
          rw [split_more c k b j (by omega) (by omega)]
/-- The text's pieces. -/
def piecesB (s : ByteArray) : List ByteArray := Lib.splitB ⟨#[32]⟩ 0 (min 5 (s.size + 1) - 1) s
theorem piecesB_is (s : ByteArray) : (piecesB s).map txt = pieces (txt s) := by
  have hl : s.data.toList.length = s.size := by rw [Array.length_toList]; rfl
  unfold piecesB pieces
  have h := Lib.splitB_data ⟨#[32]⟩ 0 (min 5 (s.size + 1) - 1) s
  have e : (Lib.splitB ⟨#[32]⟩ 0 (min 5 (s.size + 1) - 1) s).map txt = Lib.splitK [32] 0 (min 5 (s.size + 1) - 1) (txt s) := h
  rw [e]
  by_cases h4 : 4 ≤ s.size
  · rw [show min 5 (s.size + 1) - 1 = 4 by omega]
  · exact split_more 32 _ _ _ (by show s.data.toList.length ≤ _; omega) (by omega)
theorem piecesB_len (s : ByteArray) : (piecesB s).length ≤ min 5 (s.size + 1) := by
  unfold piecesB
  have := Lib.splitB_length_le ⟨#[32]⟩ 0 (min 5 (s.size + 1) - 1) s
  omega
theorem cells_pieces {w : World} {b N : Nat} {ps : List ByteArray} {t : TypeId} {f : Nat × Nat} (h : w.heap[b]? = some (.cells (Lib.cellsOf ps N) t f)) (j : Nat) (hj : j < ps.length) :
    w.cell? ⟨b, j, none⟩ = some (.string ps[j]) := by
  rw [cell_in, h]
  have : (Lib.cellsOf ps N)[j]? = some (.string ps[j]) := by
    unfold Lib.cellsOf
    rw [List.getElem?_toArray, List.getElem?_append_left (by simpa using hj), List.getElem?_map, List.getElem?_eq_getElem hj]; rfl
  simp [cellIn, this]
theorem index_kind (x : ByteArray) : max (Lib.idxOfS [wordT 0, wordT 1, wordT 2, wordT 3] x) 0 = kindOf (txt x) := by
  have hne : ∀ l, (mkT l = x) = (txt x = l) := fun l => propext ⟨fun h => by rw [← h]; rfl, fun h => txt_inj h.symm⟩
  have e0 := hne []
  have e1 := hne [112, 117, 116]
  have e2 := hne [100, 101, 108]
  have e3 := hne [103, 111, 110, 101]
  have d : Lib.idxOfS [wordT 0, wordT 1, wordT 2, wordT 3] x = if mkT [] = x then 0 else if mkT [112, 117, 116] = x then 1 else if mkT [100, 101, 108] = x then 2 else if mkT [103, 111, 110, 101] = x then 3 else -1 := rfl
  rw [d]
  unfold kindOf
  simp only [e0, e1, e2, e3]
  generalize txt x = l
  by_cases h0 : l = []
  · subst h0; decide
  · rw [if_neg h0]
    by_cases h1 : l = [112, 117, 116]
    · subst h1; decide
    · rw [if_neg h1, if_neg h1]
      by_cases h2 : l = [100, 101, 108]
      · subst h2; decide
      · rw [if_neg h2, if_neg h2]
        by_cases h3 : l = [103, 111, 110, 101]
        · subst h3; decide
        · rw [if_neg h3, if_neg h3]; decide

theorem split_le (c : UInt8) : ∀ (k : Nat) (l : List UInt8), ∀ p ∈ Lib.splitK [c] 0 k l, p.length ≤ l.length
  | 0, l, p, hp => by simp only [Lib.splitK, List.mem_singleton] at hp; subst hp; exact Nat.le_refl _
  | k + 1, l, p, hp => by
    rcases blank_cases l c with h | ⟨a, b, h, rfl⟩
    · rw [split_whole _ _ _ h, List.mem_singleton] at hp; subst hp; exact Nat.le_refl _
    · rw [split_blank _ _ _ _ h, List.mem_cons] at hp
      simp only [List.length_append, List.length_cons]
      rcases hp with rfl | hp
      · omega
      · have := split_le c k b p hp; omega
theorem piecesB_le (s : ByteArray) : ∀ p ∈ piecesB s, p.size ≤ s.size := by
  intro p hp
  have hl : ∀ x : ByteArray, (txt x).length = x.size := fun x => by unfold txt; rw [Array.length_toList]; rfl
  have h1 : txt p ∈ (piecesB s).map txt := List.mem_map_of_mem hp
  rw [piecesB_is] at h1
  have := split_le 32 4 (txt s) (txt p) h1
  rw [hl, hl] at this; exact this
/-- Five cells are stored. -/
theorem set5 {w : World} {b : Nat} {a0 a1 a2 a3 a4 : Value} {t : TypeId} (h : w.heap[b]? = some (.cells #[a0, a1, a2, a3, a4] t (0, 0))) (v0 v1 v2 v3 v4 : Value) :
    (((((w.setCell ⟨b, 0, none⟩ v0).setCell ⟨b, 1, none⟩ v1).setCell ⟨b, 2, none⟩ v2).setCell ⟨b, 3, none⟩ v3).setCell ⟨b, 4, none⟩ v4).heap[b]? = some (.cells #[v0, v1, v2, v3, v4] t (0, 0)) ∧
    w.grownBy (((((w.setCell ⟨b, 0, none⟩ v0).setCell ⟨b, 1, none⟩ v1).setCell ⟨b, 2, none⟩ v2).setCell ⟨b, 3, none⟩ v3).setCell ⟨b, 4, none⟩ v4) (some b) :=
  ⟨heap_setCell (heap_setCell (heap_setCell (heap_setCell (heap_setCell h v0) v1) v2) v3) v4,
    (((((grown_setCell w b 0 v0).trans (grown_setCell _ b 1 v1)).trans (grown_setCell _ b 2 v2)).trans (grown_setCell _ b 3 v3)).trans (grown_setCell _ b 4 v4))⟩
/-- A struct result lies in a block. -/
theorem ret_cells {P : Program} {fn : Func} {R : Ending → World → Prop} {a : Act} {w : World} {p u : Tmp} {ty : TypeId} {b : Nat} {V : Array Value} {t : TypeId} {fr : Nat × Nat} {d : TypeDesc} {v1 : Value} (h : fn.results = #[.cell p ty, .tmp u]) (hp : a.tmps.getD p undef = .pointer (some ⟨b, 0, none⟩))
    (hb : w.heap[b]? = some (.cells V t fr)) (hu : P.underlying ty = some d) (hd : (match d with | .struct _ | .array _ _ => true | _ => false) = true) (hi : (P.info? ty).map (·.size) = some V.size) (hv : a.tmps.getD u undef = v1) (hdf : a.defers = [])
    (hR : R (.returned (.tuple #[.agg V, v1])) w) : bodyPost P fn R .ret a w := by
  refine bodyPost_ret (v := .tuple #[.agg V, v1]) ?_ hdf hR
  rw [results_cell_tmp h, hp, hv]
  have := run_loadVar_row (P := P) w b t ty V fr d hb hu hd hi
  simp only [asAddr, Sem.run_pure, Result.andThen_ok, this]
theorem piecesB_pos (s : ByteArray) : 0 < (piecesB s).length := by
  have h : (piecesB s).map txt ≠ [] := by rw [piecesB_is]; exact split_ne 32 4 (txt s)
  cases e : piecesB s with
  | nil => rw [e] at h; exact absurd rfl h
  | cons a l => simp
end Go.Proofs.YtcbcknfhblamfaaGreatDoor
namespace Go.Proofs.YtcbcknfhblamfaaGreatDoor
open Go.RowKit

theorem set4c {w : World} {b : Nat} {V : Array Value} {t : TypeId} (hs : V.size = 4) (h : w.heap[b]? = some (.cells V t (0, 0))) (c : Cell) :
    ((((w.setCell ⟨b, 0, none⟩ (.string c.table)).setCell ⟨b, 1, none⟩ (.string c.row)).setCell ⟨b, 2, none⟩ (.string c.subject)).setCell ⟨b, 3, none⟩ (.string c.value)).heap[b]? = some (.cells (cellA c) t (0, 0)) ∧
    w.grownBy ((((w.setCell ⟨b, 0, none⟩ (.string c.table)).setCell ⟨b, 1, none⟩ (.string c.row)).setCell ⟨b, 2, none⟩ (.string c.subject)).setCell ⟨b, 3, none⟩ (.string c.value)) (some b) := by
  obtain ⟨v0, v1, v2, v3, rfl⟩ : ∃ v0 v1 v2 v3, V = #[v0, v1, v2, v3] := by
    obtain ⟨l⟩ := V
    match l, hs with
    | [a, b, c, d], _ => exact ⟨a, b, c, d, rfl⟩
  refine ⟨?_, ?_⟩
  · exact heap_setCell (heap_setCell (heap_setCell (heap_setCell h _) _) _) _
  · exact (((grown_setCell _ _ _ _).trans (grown_setCell _ _ _ _)).trans (grown_setCell _ _ _ _)).trans (grown_setCell _ _ _ _)
def answG (k : List UInt8 × List UInt8) (T : List Cell) : Value := if (findT k T).isSome = true then .tuple #[.agg (cellA ((findT k T).getD zeroC)), .nilIface] else .tuple #[.agg (cellA zeroC), errV 7]
theorem tabAt.look_ok {w : World} {tb : Nat} {mb : Option Nat} {n : Nat} {T : List Cell} (h : tabAt w tb mb n T) {t r : ByteArray} (ht : t.size ≤ maxLen) (hr : r.size ≤ maxLen) :
    (Instr.lookup 28 (.map mb) (.agg #[.string t, .string r]) true).run Tryz.prog w = .ok (.tuple #[.agg (cellA ((findT (txt t, txt r) T).getD zeroC)), .bool (findT (txt t, txt r) T).isSome]) w := by
  cases mb with
  | some b => exact (h.map b rfl).look_ok ht hr
  | none =>
    rw [h.nil rfl]
    exact Maps.look_nil true lawA Tryz.underlying28 (zeroCell w) (key_of t r ht hr)
set_option maxRecDepth 100000 in
set_option maxHeartbeats 4000000 in
theorem get_any (t r : ByteArray) (w : World) (tb : Nat) (mb : Option Nat) (n : Nat) (T : List Cell) (h : tabAt w tb mb n T) (ht : t.size ≤ maxLen) (hr : r.size ≤ maxLen) :
    Calls Tryz.prog 12 #[.pointer (some ⟨tb, 0, none⟩), .string t, .string r] w fun x w' => x = .returned (answG (txt t, txt r) T) ∧ ∃ x, w' = ext w x := by
  have HA : Hid (answG (txt t, txt r) T = if (findT (txt t, txt r) T).isSome = true then .tuple #[.agg (cellA ((findT (txt t, txt r) T).getD zeroC)), .nilIface] else .tuple #[.agg (cellA zeroC), errV 7]) := Lib.hid rfl
  have T0 := Lib.hid (h.kept (World.grownBy_alloc w (.cells #[.string ⟨#[]⟩, .string ⟨#[]⟩, .string ⟨#[]⟩, .string ⟨#[]⟩] 44) none) (by simp) (fun _ _ => by simp))
  have hlk := T0.out.look_ok ht hr
  have ct := cell1 T0.out.blk
  clear h
  generalize answG (txt t, txt r) T = A at HA ⊢
  generalize (findT (txt t, txt r) T).isSome = f at HA hlk
  generalize (findT (txt t, txt r) T).getD zeroC = c at HA hlk
  obtain ⟨c1, c2, c3, c4⟩ := c
  unfold cellA at hlk
  dsimp only at hlk
  have H0 := Lib.hid (heap_alloc_at w (.cells #[.string ⟨#[]⟩, .string ⟨#[]⟩, .string ⟨#[]⟩, .string ⟨#[]⟩] 44))
  have B0 := Lib.hid ((Below.refl w.heap.size w).alloc (Nat.le_refl _) (.cells #[.string ⟨#[]⟩, .string ⟨#[]⟩, .string ⟨#[]⟩, .string ⟨#[]⟩] 44))
  have s0 : (w.alloc (.cells #[.string ⟨#[]⟩, .string ⟨#[]⟩, .string ⟨#[]⟩, .string ⟨#[]⟩] 44)).heap.size = w.heap.size + 1 := by simp
  have H1 := Lib.hid ((heap_alloc_old (w.alloc (.cells #[.string ⟨#[]⟩, .string ⟨#[]⟩, .string ⟨#[]⟩, .string ⟨#[]⟩] 44)) (.cells #[.string c1, .string c2, .string c3, .string c4] 44) (lt_of_heap H0.out)).trans H0.out)
  have Y1 := Lib.hid (heap_alloc_at (w.alloc (.cells #[.string ⟨#[]⟩, .string ⟨#[]⟩, .string ⟨#[]⟩, .string ⟨#[]⟩] 44)) (.cells #[.string c1, .string c2, .string c3, .string c4] 44))
  rw [s0] at Y1
  have B1 := Lib.hid (B0.out.alloc B0.out.size (.cells #[.string c1, .string c2, .string c3, .string c4] 44))
  obtain ⟨z0, z1, z2, z3⟩ := cell_cells (c := zeroC) H1.out
  unfold zeroC at z0 z1 z2 z3
  obtain ⟨y0, y1, y2, y3⟩ := cell_cells (c := ⟨c1, c2, c3, c4⟩) Y1.out
  have fz := free_of_heap H1.out
  dsimp only at z0 z1 z2 z3 y0 y1 y2 y3
  clear H0 B0 Y1
  go_enter Tryz.func12, Tryz.ntmps12
  cases f with
  | true =>
    have hA : Hid (A = .tuple #[.agg (cellA ⟨c1, c2, c3, c4⟩), .nilIface]) := Lib.hid (HA.out.trans (if_pos rfl))
    go_wp2_with fail
    exact ret_cells rfl rfl ((heap_alloc_old _ _ (by simp)).trans (heap_alloc_at w _)) Tryz.underlying44 rfl (by kernel_rfl) rfl rfl ⟨congrArg Ending.returned hA.out.symm, ext_alloc _ (ext_alloc _ (ext_refl w))⟩
  | false =>
    have hA : Hid (A = .tuple #[.agg (cellA zeroC), errV 7]) := Lib.hid (HA.out.trans (if_neg (by simp)))
    go_wp2_with fail
    exact ret_cells rfl rfl ((heap_alloc_old _ _ (by simp)).trans (heap_alloc_at w _)) Tryz.underlying44 rfl (by kernel_rfl) rfl rfl ⟨congrArg Ending.returned hA.out.symm, ext_alloc _ (ext_alloc _ (ext_refl w))⟩
end Go.Proofs.YtcbcknfhblamfaaGreatDoor
