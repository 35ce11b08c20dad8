/- (*table.Table).Get (the walk), for a table in whatever struct. · A source in memory: New, Vault, Feed, Cells (the walks). -/
import Derived.Test.YtgckpfeeioljeaaGreatDoorProg
import Derived.Test.YtgckpfeeioljeaaGreatDoorG25
import Derived.Test.YtgckpfeeioljeaaGreatDoorG14
import Derived.Test.YtgckpfeeioljeaaGreatDoorG24
import Derived.Test.YtgckpfeeioljeaaGreatDoorG26
namespace Go.Proofs.YtgckpfeeioljeaaGreatDoor
open Go.RowKit

theorem set4c {w : World} {b : Nat} {V : Array Value} {t : TypeId} (hs : V.size = 4) (h : w.heap[b]? = some (.cells V t (0, 0))) (c : Cell) :
    ((((w.setCell ⟨b, 0, none⟩ (.string c.table)).setCell ⟨b, 1, none⟩ (.string c.row)).setCell ⟨b, 2, none⟩ (.string c.subject)).setCell ⟨b, 3, none⟩ (.string c.value)).heap[b]? = some (.cells (cellA c) t (0, 0)) ∧
    w.grownBy ((((w.setCell ⟨b, 0, none⟩ (.string c.table)).setCell ⟨b, 1, none⟩ (.string c.row)).setCell ⟨b, 2, none⟩ (.string c.subject)).setCell ⟨b, 3, none⟩ (.string c.value)) (some b) := by
  obtain ⟨v0, v1, v2, v3, rfl⟩ : ∃ v0 v1 v2 v3, V = #[v0, v1, v2, v3] := by
    obtain ⟨l⟩ := V
    match l, hs with
    | [a, b, c, d], _ => exact ⟨a, b, c, d, rfl⟩
  refine ⟨?_, ?_⟩
  · exact heap_setCell (heap_setCell (heap_setCell (heap_setCell h _) _) _) _
  · exact (((grown_setCell _ _ _ _).trans (grown_setCell _ _ _ _)).trans (grown_setCell _ _ _ _)).trans (grown_setCell _ _ _ _)
def answG (k : List UInt8 × List UInt8) (T : List Cell) : Value := if (findT k T).isSome = true then .tuple #[.agg (cellA ((findT k T).getD zeroC)), .nilIface] else .tuple #[.agg (cellA zeroC), errV 7]
theorem tabAt.look_ok {w : World} {tb : Nat} {H : Hole} {mb : Option Nat} {n : Nat} {T : List Cell} (h : tabAt w tb H mb n T) {t r : ByteArray} (ht : t.size ≤ maxLen) (hr : r.size ≤ maxLen) :
    (Instr.lookup 85 (.map mb) (.agg #[.string t, .string r]) true).run Tryz.prog w = .ok (.tuple #[.agg (cellA ((findT (txt t, txt r) T).getD zeroC)), .bool (findT (txt t, txt r) T).isSome]) w := by
  cases mb with
  | some b => exact (h.map b rfl).look_ok ht hr
  | none =>
    rw [h.nil rfl]
    exact Maps.look_nil true lawA Tryz.underlying85 (zeroCell w) (key_of t r ht hr)
set_option maxRecDepth 100000 in
set_option maxHeartbeats 4000000 in
theorem get_any (t r : ByteArray) (w : World) (tb o : Nat) (H : Hole) (ho : o = H.L.length) (mb : Option Nat) (n : Nat) (T : List Cell) (h : tabAt w tb H mb n T) (ht : t.size ≤ maxLen) (hr : r.size ≤ maxLen) :
    Calls Tryz.prog 55 #[.pointer (some ⟨tb, o, none⟩), .string t, .string r] w fun x w' => x = .returned (answG (txt t, txt r) T) ∧ ∃ x, w' = ext w x := by
  have HA : Hid (answG (txt t, txt r) T = if (findT (txt t, txt r) T).isSome = true then .tuple #[.agg (cellA ((findT (txt t, txt r) T).getD zeroC)), .nilIface] else .tuple #[.agg (cellA zeroC), errV 7]) := Lib.hid rfl
  have T0 := Lib.hid (h.kept (World.grownBy_alloc w (.cells #[.string ⟨#[]⟩, .string ⟨#[]⟩, .string ⟨#[]⟩, .string ⟨#[]⟩] 43) none) (by simp) (fun _ _ => by simp))
  have hlk := T0.out.look_ok ht hr
  have ct := Hole.cell T0.out.blk ho
  clear h ho
  generalize answG (txt t, txt r) T = A at HA ⊢
  generalize (findT (txt t, txt r) T).isSome = f at HA hlk
  generalize (findT (txt t, txt r) T).getD zeroC = c at HA hlk
  obtain ⟨c1, c2, c3, c4⟩ := c
  unfold cellA at hlk
  dsimp only at hlk
  have H0 := Lib.hid (heap_alloc_at w (.cells #[.string ⟨#[]⟩, .string ⟨#[]⟩, .string ⟨#[]⟩, .string ⟨#[]⟩] 43))
  have B0 := Lib.hid ((Below.refl w.heap.size w).alloc (Nat.le_refl _) (.cells #[.string ⟨#[]⟩, .string ⟨#[]⟩, .string ⟨#[]⟩, .string ⟨#[]⟩] 43))
  have s0 : (w.alloc (.cells #[.string ⟨#[]⟩, .string ⟨#[]⟩, .string ⟨#[]⟩, .string ⟨#[]⟩] 43)).heap.size = w.heap.size + 1 := by simp
  have H1 := Lib.hid ((heap_alloc_old (w.alloc (.cells #[.string ⟨#[]⟩, .string ⟨#[]⟩, .string ⟨#[]⟩, .string ⟨#[]⟩] 43)) (.cells #[.string c1, .string c2, .string c3, .string c4] 43) (lt_of_heap H0.out)).trans H0.out)
  have Y1 := Lib.hid (heap_alloc_at (w.alloc (.cells #[.string ⟨#[]⟩, .string ⟨#[]⟩, .string ⟨#[]⟩, .string ⟨#[]⟩] 43)) (.cells #[.string c1, .string c2, .string c3, .string c4] 43))
  rw [s0] at Y1
  have B1 := Lib.hid (B0.out.alloc B0.out.size (.cells #[.string c1, .string c2, .string c3, .string c4] 43))
  obtain ⟨z0, z1, z2, z3⟩ := cell_cells (c := zeroC) H1.out
  unfold zeroC at z0 z1 z2 z3
  obtain ⟨y0, y1, y2, y3⟩ := cell_cells (c := ⟨c1, c2, c3, c4⟩) Y1.out
  have fz := free_of_heap H1.out
  dsimp only at z0 z1 z2 z3 y0 y1 y2 y3
  clear H0 B0 Y1
  go_enter Tryz.func55, Tryz.ntmps55
  cases f with
  | true =>
    have hA : Hid (A = .tuple #[.agg (cellA ⟨c1, c2, c3, c4⟩), .nilIface]) := Lib.hid (HA.out.trans (if_pos rfl))
    go_wp2_with fail
    exact ret_cells rfl rfl ((heap_alloc_old _ _ (by simp)).trans (heap_alloc_at w _)) Tryz.underlying43 rfl (by kernel_rfl) rfl rfl ⟨congrArg Ending.returned hA.out.symm, ext_alloc _ (ext_alloc _ (ext_refl w))⟩
  | false =>
    have hA : Hid (A = .tuple #[.agg (cellA zeroC), errV 7]) := Lib.hid (HA.out.trans (if_neg (by simp)))
    go_wp2_with fail
    exact ret_cells rfl rfl ((heap_alloc_old _ _ (by simp)).trans (heap_alloc_at w _)) Tryz.underlying43 rfl (by kernel_rfl) rfl rfl ⟨congrArg Ending.returned hA.out.symm, ext_alloc _ (ext_alloc _ (ext_refl w))⟩
end Go.Proofs.YtgckpfeeioljeaaGreatDoor
namespace Go.Proofs.YtgckpfeeioljeaaGreatDoor
open Go.RowKit Go.Shelf

theorem tabAt.same {w w' : World} {tb : Nat} {H : Hole} {mb : Option Nat} {n : Nat} {T : List Cell} (h : tabAt w tb H mb n T) (h1 : w'.heap[tb]? = w.heap[tb]?) (h2 : ∀ b, mb = some b → w'.heap[b]? = w.heap[b]?) : tabAt w' tb H mb n T :=
  ⟨h1.trans h.blk, h.nil, fun b hb => (h.map b hb).same (h2 b hb)⟩
abbrev HS (vb fb : Nat) : Hole := ⟨[.pointer (some ⟨vb, 0, none⟩), .pointer (some ⟨fb, 0, none⟩)], [], 89⟩
/-- A source: V names its vault's blocks, F all of its blocks. -/
structure srcAt (w : World) (V F : Blk) (sb vb n : Nat) (sec : ByteArray) (S : SrcM) (fb : Nat) (R : Blk) (tm : Option Nat) : Prop where
  tab : tabAt w sb (HS vb fb) tm n S.T
  vault : vaultIn w V vb n sec S.many S.has
  feed : feedIn w R fb vb S.L
  apartV : apart V R
  subV : ∀ i, V i → F i
  subR : ∀ i, R i → F i
  sb_ : F sb ∧ ¬ V sb ∧ ¬ R sb
  tm_ : ∀ b, tm = some b → F b ∧ ¬ V b ∧ ¬ R b
  lt : ∀ i, F i → i < w.heap.size
def srcIn (w : World) (V F : Blk) (sb vb n : Nat) (sec : ByteArray) (S : SrcM) : Prop := ∃ fb R tm, srcAt w V F sb vb n sec S fb R tm
theorem srcAt.same {w w' : World} {V F : Blk} {sb vb n : Nat} {sec : ByteArray} {S : SrcM} {fb : Nat} {R : Blk} {tm : Option Nat} (h : srcAt w V F sb vb n sec S fb R tm) (hk : ∀ i, F i → w'.heap[i]? = w.heap[i]?) (hs : w.heap.size ≤ w'.heap.size) : srcAt w' V F sb vb n sec S fb R tm :=
  ⟨h.tab.same (hk _ h.sb_.1) (fun b hb => hk _ (h.tm_ b hb).1), h.vault.same (fun i hi => hk i (h.subV i hi)) hs, h.feed.same (fun i hi => hk i (h.subR i hi)) hs, h.apartV, h.subV, h.subR, h.sb_, h.tm_, fun i hi => Nat.lt_of_lt_of_le (h.lt i hi) hs⟩
theorem srcIn.same {w w' : World} {V F : Blk} {sb vb n : Nat} {sec : ByteArray} {S : SrcM} (h : srcIn w V F sb vb n sec S) (hk : ∀ i, F i → w'.heap[i]? = w.heap[i]?) (hs : w.heap.size ≤ w'.heap.size) : srcIn w' V F sb vb n sec S := by
  obtain ⟨fb, R, tm, h⟩ := h
  exact ⟨fb, R, tm, h.same hk hs⟩
theorem srcIn.lt {w : World} {V F : Blk} {sb vb n : Nat} {sec : ByteArray} {S : SrcM} (h : srcIn w V F sb vb n sec S) : ∀ i, F i → i < w.heap.size := by
  obtain ⟨fb, R, tm, h⟩ := h
  exact h.lt
theorem srcIn.ext {w w' : World} {V F : Blk} {sb vb n : Nat} {sec : ByteArray} {S : SrcM} (h : srcIn w V F sb vb n sec S) (hx : ∃ x, w' = Go.Proofs.YtgckpfeeioljeaaGreatDoor.ext w x) : srcIn w' V F sb vb n sec S :=
  h.same (fun i hi => (ext_iff.1 hx).block i (h.lt i hi)) (ext_iff.1 hx).size
theorem srcIn.step {w w' : World} {V F G G' : Blk} {sb vb n : Nat} {sec : ByteArray} {S : SrcM} (h : srcIn w V F sb vb n sec S) (g : Go.Proofs.YtgckpfeeioljeaaGreatDoor.step w w' G G') (ha : apart G F) : srcIn w' V F sb vb n sec S :=
  h.same (g.kept ha h.lt) g.size
theorem srcIn.mono {w : World} {V F : Blk} {sb vb n n' : Nat} {sec : ByteArray} {S : SrcM} (h : srcIn w V F sb vb n sec S) (hn : n ≤ n') : srcIn w V F sb vb n' sec S := by
  obtain ⟨fb, R, tm, h⟩ := h
  exact ⟨fb, R, tm, h.tab.mono hn, h.vault.mono hn, h.feed, h.apartV, h.subV, h.subR, h.sb_, h.tm_, h.lt⟩
theorem srcIn.vault {w : World} {V F : Blk} {sb vb n : Nat} {sec : ByteArray} {S : SrcM} (h : srcIn w V F sb vb n sec S) : vaultIn w V vb n sec S.many S.has ∧ ∀ i, V i → F i := by
  obtain ⟨fb, R, tm, h⟩ := h
  exact ⟨h.vault, h.subV⟩
theorem srcIn.once {w : World} {V F : Blk} {sb vb n : Nat} {sec : ByteArray} {S : SrcM} (h : srcIn w V F sb vb n sec S) : Once S.T := by
  obtain ⟨fb, R, tm, h⟩ := h
  exact h.tab.once
theorem srcAt.cells {w : World} {V F : Blk} {sb vb n : Nat} {sec : ByteArray} {S : SrcM} {fb : Nat} {R : Blk} {tm : Option Nat} (h : srcAt w V F sb vb n sec S fb R tm) :
    w.cell? ⟨sb, 0, none⟩ = some (.pointer (some ⟨vb, 0, none⟩)) ∧ w.cell? ⟨sb, 1, none⟩ = some (.pointer (some ⟨fb, 0, none⟩)) ∧ sb < w.heap.size := by
  refine ⟨?_, ?_, lt_of_heap h.tab.blk⟩ <;> (rw [cell_in, h.tab.blk]; rfl)
set_option maxRecDepth 100000 in
theorem frecords_any (w : World) (R : Blk) (fb vb : Nat) (L : List Rec) (h : feedIn w R fb vb L) :
    Calls Tryz.prog 49 #[.pointer (some ⟨fb, 0, none⟩)] w fun r w' => ∃ v, r = .returned v ∧ ownsRl w' w.heap.size v L ∧ Below w.heap.size w w' := by
  obtain ⟨q, cap, h1, h2, h3, h4⟩ := h.at_
  obtain ⟨c0, c1⟩ := two_at h1
  have lf := lt_of_heap h1
  have CL := cloneR_any q cap L w h3 (by have := h.len; omega)
  clear h h1 h2 h3 h4
  go_enter Tryz.func49, Tryz.ntmps49
  go_wp2_with fail
  refine CL.mono ?_
  rintro _ w1 ⟨v, rfl, ho, hb⟩
  have HO := Lib.hid ho
  have HB := Lib.hid hb
  clear ho hb CL
  go_wp2_with fail
  go_ret
  exact ⟨v, rfl, HO.out, HB.out⟩
set_option maxRecDepth 100000 in
theorem sfeed_any (w : World) (V F : Blk) (sb vb n : Nat) (sec : ByteArray) (S : SrcM) (h : srcIn w V F sb vb n sec S) :
    Calls Tryz.prog 13 #[.pointer (some ⟨sb, 0, none⟩)] w fun r w' => ∃ v, r = .returned v ∧ ownsRl w' w.heap.size v S.L ∧ Below w.heap.size w w' := by
  obtain ⟨fb, R, tm, h⟩ := h
  obtain ⟨c0, c1, lt⟩ := h.cells
  have FR := frecords_any w R fb vb S.L h.feed
  clear h
  go_enter Tryz.func13, Tryz.ntmps13
  go_wp2_with fail
  refine FR.mono ?_
  rintro _ w1 ⟨v, rfl, ho, hb⟩
  have HO := Lib.hid ho
  have HB := Lib.hid hb
  clear ho hb FR
  go_wp2_with fail
  go_ret
  exact ⟨v, rfl, HO.out, HB.out⟩
set_option maxRecDepth 100000 in
theorem scells_any (w : World) (V F : Blk) (sb vb n : Nat) (sec : ByteArray) (S : SrcM) (h : srcIn w V F sb vb n sec S) (hn : n ≤ 1048576) :
    Calls Tryz.prog 24 #[.pointer (some ⟨sb, 0, none⟩)] w (RowsPost w S.T) := by
  obtain ⟨fb, R, tm, h⟩ := h
  have CE := cells_any w sb 2 (HS vb fb) rfl tm n S.T h.tab hn
  clear h
  go_enter Tryz.func24, Tryz.ntmps24
  go_wp2_with fail
  refine CE.mono ?_
  rintro _ w1 ⟨v, rfl, h2⟩
  have H2 := Lib.hid h2
  clear h2 CE
  go_wp2_with fail
  go_ret
  exact ⟨v, rfl, H2.out⟩
set_option maxRecDepth 100000 in
theorem svault_any (w : World) (V F : Blk) (sb vb n : Nat) (sec : ByteArray) (S : SrcM) (h : srcIn w V F sb vb n sec S) :
    Calls Tryz.prog 16 #[.pointer (some ⟨sb, 0, none⟩)] w fun r w' => r = .returned (.pointer (some ⟨vb, 0, none⟩)) ∧ w = w' := by
  obtain ⟨fb, R, tm, h⟩ := h
  obtain ⟨c0, c1, lt⟩ := h.cells
  clear h
  go_enter Tryz.func16, Tryz.ntmps16
  go_wp2_with fail
  go_ret
  exact ⟨rfl, rfl⟩
set_option maxRecDepth 100000 in
theorem snew_bad (sec : ByteArray) (w : World) (h : sec.size ≠ 16) : Calls Tryz.prog 21 #[.string sec] w fun r w' => r = .returned (.tuple #[.pointer none, errV 1]) ∧ w = w' := by
  have VN := vnew_bad sec w h
  clear h
  go_enter Tryz.func21, Tryz.ntmps21
  go_wp2_with fail
  refine VN.mono ?_
  rintro _ w1 ⟨rfl, rfl⟩
  go_wp2_with fail
  go_ret2
  exact ⟨rfl, rfl⟩
set_option maxRecDepth 100000 in
theorem snew_any (sec : ByteArray) (w : World) (h : sec.size = 16) : Calls Tryz.prog 21 #[.string sec] w fun r w' => ∃ sb vb V F, r = .returned (.tuple #[.pointer (some ⟨sb, 0, none⟩), .nilIface]) ∧ srcIn w' V F sb vb 0 sec S0 ∧ step w w' none0 F := by
  have VN := vnew_in sec w h
  clear h
  go_enter Tryz.func21, Tryz.ntmps21
  go_wp2_with fail
  refine VN.mono ?_
  rintro _ w1 ⟨vb, V, rfl, hv, hs⟩
  have HV := Lib.hid hv
  have HS1 := Lib.hid hs
  clear hv hs VN
  go_wp2_with fail
  refine (fnew_any vb w1).mono ?_
  rintro _ w2 ⟨fb, R, rfl, hf, hs2, hx⟩
  have HF := Lib.hid hf
  have HS2 := Lib.hid hs2
  have HX := Lib.hid hx
  clear hf hs2 hx
  go_wp2_with fail
  go_ret2
  have V2 := HV.out.ext HX.out
  have hRn : ∀ i, R i → w1.heap.size ≤ i ∧ i < w2.heap.size := fun i hi => HS2.out.new hi
  have hVn : ∀ i, V i → w.heap.size ≤ i ∧ i < w1.heap.size := fun i hi => HS1.out.new hi
  have sz := (ext_iff.1 HX.out).size
  have sz1 := HS1.out.size
  refine ⟨w2.heap.size, vb, V, fun i => V i ∨ R i ∨ i = w2.heap.size, rfl, ⟨fb, R, none, ⟨heap_alloc_at w2 _, (fun _ => rfl), (fun b hb => by cases hb)⟩, V2.ext (ext_alloc _ (ext_refl _)), HF.out.ext (ext_alloc _ (ext_refl _)), fun i h1 h2 => by have := hRn i h2; have := hVn i h1; omega, fun i h => .inl h, fun i h => .inr (.inl h), ⟨.inr (.inr rfl), fun h => by have := hVn _ h; omega, fun h => by have := hRn _ h; omega⟩, (fun b hb => by cases hb), ?_⟩, ?_⟩
  · rintro i (h | h | rfl)
    · have := hVn i h; simp; omega
    · have := hRn i h; simp; omega
    · simp
  · have X : ∃ x, (w2.alloc (.cells #[.pointer (some ⟨vb, 0, none⟩), .pointer (some ⟨fb, 0, none⟩), .map none] 89)) = ext w1 x := ext_alloc _ HX.out
    refine (HS1.out.trans (.of_ext V X)).more ?_
    rintro i (h | h | rfl)
    · exact .inl h
    · have := hRn i h; exact .inr ⟨by omega, by simp; omega⟩
    · exact .inr ⟨by omega, by simp⟩
end Go.Proofs.YtgckpfeeioljeaaGreatDoor
