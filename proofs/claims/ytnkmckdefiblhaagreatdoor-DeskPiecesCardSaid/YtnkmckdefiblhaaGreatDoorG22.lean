/- (*table.Table).Get (the walk), for a table in whatever struct. · A source in memory: New, Vault, Feed, Cells (the walks). · feed.Open of what was told; Records (the walks). · A reader in memory: New, At, Lost, Cells (the walks). · (*reader.Reader).Read: a record that was read, or that lacks one ahead. -/
import Derived.Test.YtnkmckdefiblhaaGreatDoorProg
import Derived.Test.YtnkmckdefiblhaaGreatDoorG16
import Derived.Test.YtnkmckdefiblhaaGreatDoorG12
import Derived.Test.YtnkmckdefiblhaaGreatDoorG21
import Derived.Test.YtnkmckdefiblhaaGreatDoorG17
import Derived.Test.YtnkmckdefiblhaaGreatDoorG14
import Derived.Test.YtnkmckdefiblhaaGreatDoorG11
namespace Go.Proofs.YtnkmckdefiblhaaGreatDoor
open Go.RowKit

def answG (k : List UInt8 × List UInt8) (T : List Cell) : Value := if (findT k T).isSome = true then .tuple #[.agg (cellA ((findT k T).getD zeroC)), .nilIface] else .tuple #[.agg (cellA zeroC), errV 7]
theorem tabAt.look_ok {w : World} {tb : Nat} {H : Hole} {mb : Option Nat} {n : Nat} {T : List Cell} (h : tabAt w tb H mb n T) {t r : ByteArray} (ht : t.size ≤ maxLen) (hr : r.size ≤ maxLen) :
    (Instr.lookup 68 (.map mb) (.agg #[.string t, .string r]) true).run Tryz.prog w = .ok (.tuple #[.agg (cellA ((findT (txt t, txt r) T).getD zeroC)), .bool (findT (txt t, txt r) T).isSome]) w := by
  cases mb with
  | some b => exact (h.map b rfl).look_ok ht hr
  | none =>
    rw [h.nil rfl]
    exact Maps.look_nil true lawA Tryz.underlying68 (zeroCell w) (key_of t r ht hr)
set_option maxRecDepth 100000 in
set_option maxHeartbeats 4000000 in
theorem get_any (t r : ByteArray) (w : World) (tb o : Nat) (H : Hole) (ho : o = H.L.length) (mb : Option Nat) (n : Nat) (T : List Cell) (h : tabAt w tb H mb n T) (ht : t.size ≤ maxLen) (hr : r.size ≤ maxLen) :
    Calls Tryz.prog 121 #[.pointer (some ⟨tb, o, none⟩), .string t, .string r] w fun x w' => x = .returned (answG (txt t, txt r) T) ∧ ∃ x, w' = ext w x := by
  have HA : Hid (answG (txt t, txt r) T = if (findT (txt t, txt r) T).isSome = true then .tuple #[.agg (cellA ((findT (txt t, txt r) T).getD zeroC)), .nilIface] else .tuple #[.agg (cellA zeroC), errV 7]) := Lib.hid rfl
  have T0 := Lib.hid (h.kept (World.grownBy_alloc w (.cells #[.string ⟨#[]⟩, .string ⟨#[]⟩, .string ⟨#[]⟩, .string ⟨#[]⟩] 152) none) (by simp) (fun _ _ => by simp))
  have hlk := T0.out.look_ok ht hr
  have ct := Hole.cell T0.out.blk ho
  clear h ho
  generalize answG (txt t, txt r) T = A at HA ⊢
  generalize (findT (txt t, txt r) T).isSome = f at HA hlk
  generalize (findT (txt t, txt r) T).getD zeroC = c at HA hlk
  obtain ⟨c1, c2, c3, c4⟩ := c
  unfold cellA at hlk
  dsimp only at hlk
  have H0 := Lib.hid (heap_alloc_at w (.cells #[.string ⟨#[]⟩, .string ⟨#[]⟩, .string ⟨#[]⟩, .string ⟨#[]⟩] 152))
  have B0 := Lib.hid ((Below.refl w.heap.size w).alloc (Nat.le_refl _) (.cells #[.string ⟨#[]⟩, .string ⟨#[]⟩, .string ⟨#[]⟩, .string ⟨#[]⟩] 152))
  have s0 : (w.alloc (.cells #[.string ⟨#[]⟩, .string ⟨#[]⟩, .string ⟨#[]⟩, .string ⟨#[]⟩] 152)).heap.size = w.heap.size + 1 := by simp
  have H1 := Lib.hid ((heap_alloc_old (w.alloc (.cells #[.string ⟨#[]⟩, .string ⟨#[]⟩, .string ⟨#[]⟩, .string ⟨#[]⟩] 152)) (.cells #[.string c1, .string c2, .string c3, .string c4] 152) (lt_of_heap H0.out)).trans H0.out)
  have Y1 := Lib.hid (heap_alloc_at (w.alloc (.cells #[.string ⟨#[]⟩, .string ⟨#[]⟩, .string ⟨#[]⟩, .string ⟨#[]⟩] 152)) (.cells #[.string c1, .string c2, .string c3, .string c4] 152))
  rw [s0] at Y1
  have B1 := Lib.hid (B0.out.alloc B0.out.size (.cells #[.string c1, .string c2, .string c3, .string c4] 152))
  obtain ⟨z0, z1, z2, z3⟩ := cell_cells (c := zeroC) H1.out
  unfold zeroC at z0 z1 z2 z3
  obtain ⟨y0, y1, y2, y3⟩ := cell_cells (c := ⟨c1, c2, c3, c4⟩) Y1.out
  have fz := free_of_heap H1.out
  dsimp only at z0 z1 z2 z3 y0 y1 y2 y3
  clear H0 B0 Y1
  go_enter Tryz.func121, Tryz.ntmps121
  cases f with
  | true =>
    have hA : Hid (A = .tuple #[.agg (cellA ⟨c1, c2, c3, c4⟩), .nilIface]) := Lib.hid (HA.out.trans (if_pos rfl))
    go_wp2_with fail
    exact ret_cells rfl rfl ((heap_alloc_old _ _ (by simp)).trans (heap_alloc_at w _)) Tryz.underlying152 rfl (by kernel_rfl) rfl rfl ⟨congrArg Ending.returned hA.out.symm, ext_alloc _ (ext_alloc _ (ext_refl w))⟩
  | false =>
    have hA : Hid (A = .tuple #[.agg (cellA zeroC), errV 7]) := Lib.hid (HA.out.trans (if_neg (by simp)))
    go_wp2_with fail
    exact ret_cells rfl rfl ((heap_alloc_old _ _ (by simp)).trans (heap_alloc_at w _)) Tryz.underlying152 rfl (by kernel_rfl) rfl rfl ⟨congrArg Ending.returned hA.out.symm, ext_alloc _ (ext_alloc _ (ext_refl w))⟩
end Go.Proofs.YtnkmckdefiblhaaGreatDoor
namespace Go.Proofs.YtnkmckdefiblhaaGreatDoor
open Go.RowKit Go.Shelf

theorem tabAt.same {w w' : World} {tb : Nat} {H : Hole} {mb : Option Nat} {n : Nat} {T : List Cell} (h : tabAt w tb H mb n T) (h1 : w'.heap[tb]? = w.heap[tb]?) (h2 : ∀ b, mb = some b → w'.heap[b]? = w.heap[b]?) : tabAt w' tb H mb n T :=
  ⟨h1.trans h.blk, h.nil, fun b hb => (h.map b hb).same (h2 b hb)⟩
abbrev HS (vb fb : Nat) : Hole := ⟨[.pointer (some ⟨vb, 0, none⟩), .pointer (some ⟨fb, 0, none⟩)], [], 72⟩
/-- A source: V names its vault's blocks, F all of its blocks. -/
structure srcAt (w : World) (V F : Blk) (sb vb n : Nat) (sec : ByteArray) (S : SrcM) (fb : Nat) (R : Blk) (tm : Option Nat) : Prop where
  tab : tabAt w sb (HS vb fb) tm n S.T
  vault : vaultIn w V vb n sec S.many S.has
  feed : feedIn w R fb vb S.L
  apartV : apart V R
  subV : ∀ i, V i → F i
  subR : ∀ i, R i → F i
  sb_ : F sb ∧ ¬ V sb ∧ ¬ R sb
  tm_ : ∀ b, tm = some b → F b ∧ ¬ V b ∧ ¬ R b
  lt : ∀ i, F i → i < w.heap.size
def srcIn (w : World) (V F : Blk) (sb vb n : Nat) (sec : ByteArray) (S : SrcM) : Prop := ∃ fb R tm, srcAt w V F sb vb n sec S fb R tm
theorem srcAt.same {w w' : World} {V F : Blk} {sb vb n : Nat} {sec : ByteArray} {S : SrcM} {fb : Nat} {R : Blk} {tm : Option Nat} (h : srcAt w V F sb vb n sec S fb R tm) (hk : ∀ i, F i → w'.heap[i]? = w.heap[i]?) (hs : w.heap.size ≤ w'.heap.size) : srcAt w' V F sb vb n sec S fb R tm :=
  ⟨h.tab.same (hk _ h.sb_.1) (fun b hb => hk _ (h.tm_ b hb).1), h.vault.same (fun i hi => hk i (h.subV i hi)) hs, h.feed.same (fun i hi => hk i (h.subR i hi)) hs, h.apartV, h.subV, h.subR, h.sb_, h.tm_, fun i hi => Nat.lt_of_lt_of_le (h.lt i hi) hs⟩
theorem srcIn.same {w w' : World} {V F : Blk} {sb vb n : Nat} {sec : ByteArray} {S : SrcM} (h : srcIn w V F sb vb n sec S) (hk : ∀ i, F i → w'.heap[i]? = w.heap[i]?) (hs : w.heap.size ≤ w'.heap.size) : srcIn w' V F sb vb n sec S := by
  obtain ⟨fb, R, tm, h⟩ := h
  exact ⟨fb, R, tm, h.same hk hs⟩
theorem srcIn.lt {w : World} {V F : Blk} {sb vb n : Nat} {sec : ByteArray} {S : SrcM} (h : srcIn w V F sb vb n sec S) : ∀ i, F i → i < w.heap.size := by
  obtain ⟨fb, R, tm, h⟩ := h
  exact h.lt
theorem srcIn.ext {w w' : World} {V F : Blk} {sb vb n : Nat} {sec : ByteArray} {S : SrcM} (h : srcIn w V F sb vb n sec S) (hx : ∃ x, w' = Go.Proofs.YtnkmckdefiblhaaGreatDoor.ext w x) : srcIn w' V F sb vb n sec S :=
  h.same (fun i hi => (ext_iff.1 hx).block i (h.lt i hi)) (ext_iff.1 hx).size
theorem srcIn.step {w w' : World} {V F G G' : Blk} {sb vb n : Nat} {sec : ByteArray} {S : SrcM} (h : srcIn w V F sb vb n sec S) (g : Go.Proofs.YtnkmckdefiblhaaGreatDoor.step w w' G G') (ha : apart G F) : srcIn w' V F sb vb n sec S :=
  h.same (g.kept ha h.lt) g.size
theorem srcIn.mono {w : World} {V F : Blk} {sb vb n n' : Nat} {sec : ByteArray} {S : SrcM} (h : srcIn w V F sb vb n sec S) (hn : n ≤ n') : srcIn w V F sb vb n' sec S := by
  obtain ⟨fb, R, tm, h⟩ := h
  exact ⟨fb, R, tm, h.tab.mono hn, h.vault.mono hn, h.feed, h.apartV, h.subV, h.subR, h.sb_, h.tm_, h.lt⟩
theorem srcIn.vault {w : World} {V F : Blk} {sb vb n : Nat} {sec : ByteArray} {S : SrcM} (h : srcIn w V F sb vb n sec S) : vaultIn w V vb n sec S.many S.has ∧ ∀ i, V i → F i := by
  obtain ⟨fb, R, tm, h⟩ := h
  exact ⟨h.vault, h.subV⟩
theorem srcIn.once {w : World} {V F : Blk} {sb vb n : Nat} {sec : ByteArray} {S : SrcM} (h : srcIn w V F sb vb n sec S) : Once S.T := by
  obtain ⟨fb, R, tm, h⟩ := h
  exact h.tab.once
theorem srcAt.cells {w : World} {V F : Blk} {sb vb n : Nat} {sec : ByteArray} {S : SrcM} {fb : Nat} {R : Blk} {tm : Option Nat} (h : srcAt w V F sb vb n sec S fb R tm) :
    w.cell? ⟨sb, 0, none⟩ = some (.pointer (some ⟨vb, 0, none⟩)) ∧ w.cell? ⟨sb, 1, none⟩ = some (.pointer (some ⟨fb, 0, none⟩)) ∧ sb < w.heap.size := by
  refine ⟨?_, ?_, lt_of_heap h.tab.blk⟩ <;> (rw [cell_in, h.tab.blk]; rfl)
set_option maxRecDepth 100000 in
theorem frecords_any (w : World) (R : Blk) (fb vb : Nat) (L : List Rec) (h : feedIn w R fb vb L) :
    Calls Tryz.prog 92 #[.pointer (some ⟨fb, 0, none⟩)] w fun r w' => ∃ v, r = .returned v ∧ ownsRl w' w.heap.size v L ∧ Below w.heap.size w w' := by
  obtain ⟨q, cap, h1, h2, h3, h4⟩ := h.at_
  obtain ⟨c0, c1⟩ := two_at h1
  have lf := lt_of_heap h1
  have CL := cloneR_any q cap L w h3 (by have := h.len; omega)
  clear h h1 h2 h3 h4
  go_enter Tryz.func92, Tryz.ntmps92
  go_wp2_with fail
  refine CL.mono ?_
  rintro _ w1 ⟨v, rfl, ho, hb⟩
  have HO := Lib.hid ho
  have HB := Lib.hid hb
  clear ho hb CL
  go_wp2_with fail
  go_ret
  exact ⟨v, rfl, HO.out, HB.out⟩
set_option maxRecDepth 100000 in
theorem sfeed_any (w : World) (V F : Blk) (sb vb n : Nat) (sec : ByteArray) (S : SrcM) (h : srcIn w V F sb vb n sec S) :
    Calls Tryz.prog 60 #[.pointer (some ⟨sb, 0, none⟩)] w fun r w' => ∃ v, r = .returned v ∧ ownsRl w' w.heap.size v S.L ∧ Below w.heap.size w w' := by
  obtain ⟨fb, R, tm, h⟩ := h
  obtain ⟨c0, c1, lt⟩ := h.cells
  have FR := frecords_any w R fb vb S.L h.feed
  clear h
  go_enter Tryz.func60, Tryz.ntmps60
  go_wp2_with fail
  refine FR.mono ?_
  rintro _ w1 ⟨v, rfl, ho, hb⟩
  have HO := Lib.hid ho
  have HB := Lib.hid hb
  clear ho hb FR
  go_wp2_with fail
  go_ret
  exact ⟨v, rfl, HO.out, HB.out⟩
set_option maxRecDepth 100000 in
theorem scells_any (w : World) (V F : Blk) (sb vb n : Nat) (sec : ByteArray) (S : SrcM) (h : srcIn w V F sb vb n sec S) (hn : n ≤ 1048576) :
    Calls Tryz.prog 58 #[.pointer (some ⟨sb, 0, none⟩)] w (RowsPost w S.T) := by
  obtain ⟨fb, R, tm, h⟩ := h
  have CE := cells_any w sb 2 (HS vb fb) rfl tm n S.T h.tab hn
  clear h
  go_enter Tryz.func58, Tryz.ntmps58
  go_wp2_with fail
  refine CE.mono ?_
  rintro _ w1 ⟨v, rfl, h2⟩
  have H2 := Lib.hid h2
  clear h2 CE
  go_wp2_with fail
  go_ret
  exact ⟨v, rfl, H2.out⟩
set_option maxRecDepth 100000 in
theorem svault_any (w : World) (V F : Blk) (sb vb n : Nat) (sec : ByteArray) (S : SrcM) (h : srcIn w V F sb vb n sec S) :
    Calls Tryz.prog 63 #[.pointer (some ⟨sb, 0, none⟩)] w fun r w' => r = .returned (.pointer (some ⟨vb, 0, none⟩)) ∧ w = w' := by
  obtain ⟨fb, R, tm, h⟩ := h
  obtain ⟨c0, c1, lt⟩ := h.cells
  clear h
  go_enter Tryz.func63, Tryz.ntmps63
  go_wp2_with fail
  go_ret
  exact ⟨rfl, rfl⟩
set_option maxRecDepth 100000 in
theorem snew_any (sec : ByteArray) (w : World) (h : sec.size = 16) : Calls Tryz.prog 12 #[.string sec] w fun r w' => ∃ sb vb V F, r = .returned (.tuple #[.pointer (some ⟨sb, 0, none⟩), .nilIface]) ∧ srcIn w' V F sb vb 0 sec S0 ∧ step w w' none0 F := by
  have VN := vnew_in sec w h
  clear h
  go_enter Tryz.func12, Tryz.ntmps12
  go_wp2_with fail
  refine VN.mono ?_
  rintro _ w1 ⟨vb, V, rfl, hv, hs⟩
  have HV := Lib.hid hv
  have HS1 := Lib.hid hs
  clear hv hs VN
  go_wp2_with fail
  refine (fnew_any vb w1).mono ?_
  rintro _ w2 ⟨fb, R, rfl, hf, hs2, hx⟩
  have HF := Lib.hid hf
  have HS2 := Lib.hid hs2
  have HX := Lib.hid hx
  clear hf hs2 hx
  go_wp2_with fail
  go_ret2
  have V2 := HV.out.ext HX.out
  have hRn : ∀ i, R i → w1.heap.size ≤ i ∧ i < w2.heap.size := fun i hi => HS2.out.new hi
  have hVn : ∀ i, V i → w.heap.size ≤ i ∧ i < w1.heap.size := fun i hi => HS1.out.new hi
  have sz := (ext_iff.1 HX.out).size
  have sz1 := HS1.out.size
  refine ⟨w2.heap.size, vb, V, fun i => V i ∨ R i ∨ i = w2.heap.size, rfl, ⟨fb, R, none, ⟨heap_alloc_at w2 _, (fun _ => rfl), (fun b hb => by cases hb)⟩, V2.ext (ext_alloc _ (ext_refl _)), HF.out.ext (ext_alloc _ (ext_refl _)), fun i h1 h2 => by have := hRn i h2; have := hVn i h1; omega, fun i h => .inl h, fun i h => .inr (.inl h), ⟨.inr (.inr rfl), fun h => by have := hVn _ h; omega, fun h => by have := hRn _ h; omega⟩, (fun b hb => by cases hb), ?_⟩, ?_⟩
  · rintro i (h | h | rfl)
    · have := hVn i h; simp; omega
    · have := hRn i h; simp; omega
    · simp
  · have X : ∃ x, (w2.alloc (.cells #[.pointer (some ⟨vb, 0, none⟩), .pointer (some ⟨fb, 0, none⟩), .map none] 72)) = ext w1 x := ext_alloc _ HX.out
    refine (HS1.out.trans (.of_ext V X)).more ?_
    rintro i (h | h | rfl)
    · exact .inl h
    · have := hRn i h; exact .inr ⟨by omega, by simp; omega⟩
    · exact .inr ⟨by omega, by simp⟩
end Go.Proofs.YtnkmckdefiblhaaGreatDoor
namespace Go.Proofs.YtnkmckdefiblhaaGreatDoor
open Go.RowKit Go.Shelf

/-- A whole event is stored. -/
theorem setEv5 {w : World} {b : Nat} {v0 v1 v2 v3 v4 : Value} {t : TypeId} (h : w.heap[b]? = some (.cells #[v0, v1, v2, v3, v4] t (0, 0))) (x0 x1 x2 x3 x4 : Value) :
    (((((w.setCell ⟨b, 0, none⟩ x0).setCell ⟨b, 1, none⟩ x1).setCell ⟨b, 2, none⟩ x2).setCell ⟨b, 3, none⟩ x3).setCell ⟨b, 4, none⟩ x4).heap[b]? = some (.cells #[x0, x1, x2, x3, x4] t (0, 0)) ∧
    w.grownBy (((((w.setCell ⟨b, 0, none⟩ x0).setCell ⟨b, 1, none⟩ x1).setCell ⟨b, 2, none⟩ x2).setCell ⟨b, 3, none⟩ x3).setCell ⟨b, 4, none⟩ x4) (some b) := setRec5 h x0 x1 x2 x3 x4
def OpenPost (w : World) (many : ByteArray → Nat) (has : ByteArray → Bool) (r : Rec) (e : Ev) (x : Ending) (w' : World) : Prop := x = .returned (openV many has r e) ∧ ∃ x, w' = ext w x
set_option maxRecDepth 100000 in
set_option maxHeartbeats 4000000 in
/-- A record whose key is no more. -/
theorem fopen_lost (e : Ev) (r : Rec) (w : World) (V : Blk) (vb n : Nat) (sec : ByteArray) (many : ByteArray → Nat) (has : ByteArray → Bool) (hv : vaultIn w V vb n sec many has) (h : isTold sec r e) (hm : r.gen ≤ (many r.subject : Nat)) (hl : lostR many has r = true) :
    Calls Tryz.prog 99 #[.pointer (some ⟨vb, 0, none⟩), .agg (recV r)] w (OpenPost w many has r e) := by
  have hz := h.small
  have HP : Hid (∀ x w', (x = .returned (.tuple #[.agg (evV zeroE), errV 8]) ∧ ∃ y, w' = ext w y) → OpenPost w many has r e x w') := Lib.hid fun x w' hx => ⟨by rw [hx.1]; unfold openV; rw [if_pos hl, if_pos hl], hx.2⟩
  generalize OpenPost w many has r e = P at HP ⊢
  unfold lostR at hl
  simp only [Bool.and_eq_true, decide_eq_true_eq] at hl
  have hg := h.gen0
  have KY := fun W hV => vkey_in r.subject r.gen W V vb n sec many has hV (by omega) (by omega) hm
  rw [if_pos (by simpa using hl.2)] at KY
  have hne : (r.gen == 0) = false := by simp [hl.1]
  have hne2 : (r.gen != 0) = true := by simp [hl.1]
  have HV := Lib.hid hv
  clear hv h hm hl hg hz
  obtain ⟨q, s, g, p, b⟩ := r
  unfold recV
  dsimp only at KY hne hne2 ⊢
  have H2 := two_new w (.cells #[.int .i64 q, .string s, .int .i64 g, .string p, .string b] 108) (.cells #[.int .i64 0, .string ⟨#[]⟩, .string ⟨#[]⟩, .string ⟨#[]⟩, .string ⟨#[]⟩] 155)
  have X2 := Lib.hid (ext_alloc (.cells #[.int .i64 0, .string ⟨#[]⟩, .string ⟨#[]⟩, .string ⟨#[]⟩, .string ⟨#[]⟩] 155) (ext_alloc (.cells #[.int .i64 q, .string s, .int .i64 g, .string p, .string b] 108) (ext_refl w)))
  have HE := Lib.hid H2.1
  have HZ := Lib.hid H2.2.1
  clear H2
  go_enter Tryz.func99, Tryz.ntmps99
  go_wp2_with fail
  generalize (w.alloc (.cells #[.int .i64 q, .string s, .int .i64 g, .string p, .string b] 108)).alloc (.cells #[.int .i64 0, .string ⟨#[]⟩, .string ⟨#[]⟩, .string ⟨#[]⟩, .string ⟨#[]⟩] 155) = w1 at HE HZ X2 ⊢
  obtain ⟨c0, c1, c2, c3, c4⟩ := rec_cells (r := ⟨q, s, g, p, b⟩) HE.out
  dsimp only at c0 c1 c2 c3 c4
  have le := lt_of_heap HE.out
  go_wp2_with fail
  refine (KY _ (HV.out.ext X2.out)).mono ?_
  rintro _ w2 ⟨rfl, rfl⟩
  obtain ⟨y0, y1, y2, y3, y4⟩ := ev_cells HZ.out
  have lz := lt_of_heap HZ.out
  have fz := free_of_heap HZ.out
  have SR := Lib.hid (setEv5 HZ.out (.int .i64 0) (.string ⟨#[]⟩) (.string ⟨#[]⟩) (.string ⟨#[]⟩) (.string ⟨#[]⟩))
  go_wp2_with fail
  generalize (((((w1.setCell ⟨w.heap.size + 1, 0, none⟩ (.int .i64 0)).setCell ⟨w.heap.size + 1, 1, none⟩ (.string ⟨#[]⟩)).setCell ⟨w.heap.size + 1, 2, none⟩ (.string ⟨#[]⟩)).setCell ⟨w.heap.size + 1, 3, none⟩ (.string ⟨#[]⟩)).setCell ⟨w.heap.size + 1, 4, none⟩ (.string ⟨#[]⟩)) = w9 at SR ⊢
  obtain ⟨SR1, SR2⟩ := SR.out
  exact ret_cells rfl rfl SR1 Tryz.underlying155 rfl (by kernel_rfl) rfl rfl (HP.out _ _ ⟨rfl, ext_of ((ext_iff.1 X2.out).grown SR2 (ext_iff.1 X2.out).size (fun j e => by cases e; omega))⟩)
set_option maxRecDepth 100000 in
set_option maxHeartbeats 4000000 in
/-- A Gone. -/
theorem fopen_gone (e : Ev) (r : Rec) (w : World) (V : Blk) (vb : Nat) (sec : ByteArray) (many : ByteArray → Nat) (has : ByteArray → Bool) (hG : Glob w V) (h : isTold sec r e) (hk : e.kind = 3) :
    Calls Tryz.prog 99 #[.pointer (some ⟨vb, 0, none⟩), .agg (recV r)] w (OpenPost w many has r e) := by
  have hz := h.small
  obtain ⟨hg, hb⟩ := h.gone hk
  have hnl : lostR many has r = false := by unfold lostR; rw [hg]; rfl
  have HP : Hid (∀ x w', (x = .returned (.tuple #[.agg (evV e), .nilIface]) ∧ ∃ y, w' = ext w y) → OpenPost w many has r e x w') := Lib.hid fun x w' hx => ⟨by rw [hx.1]; unfold openV; rw [hnl]; rfl, hx.2⟩
  generalize OpenPost w many has r e = P at HP ⊢
  have hs := h.subj
  obtain ⟨hp1, hp2⟩ := parse_of_print e h.right
  have PS := fun W hM hW => parse_any r.body W (by omega) hM hW
  unfold ParsePost at PS
  rw [hb, show mkT (printL e) = (⟨(printL e).toArray⟩ : ByteArray) from rfl, hp1, hp2] at PS
  have GG := Lib.hid hG
  rw [show mkT (printL e) = (⟨(printL e).toArray⟩ : ByteArray) from rfl] at hb
  obtain ⟨q, s, g, p, b⟩ := r
  dsimp only at hg hb hs
  subst hg hs
  generalize (⟨(printL e).toArray⟩ : ByteArray) = pb at PS hb
  subst hb
  clear h hp1 hp2 hz hnl hG
  obtain ⟨k, u, t, rw_, v⟩ := e
  dsimp only at hk
  subst hk
  unfold recV
  unfold evV at PS HP
  dsimp only at PS HP ⊢
  have H2 := two_new w (.cells #[.int .i64 q, .string u, .int .i64 0, .string p, .string b] 108) (.cells #[.int .i64 0, .string ⟨#[]⟩, .string ⟨#[]⟩, .string ⟨#[]⟩, .string ⟨#[]⟩] 155)
  have X2 := Lib.hid (ext_alloc (.cells #[.int .i64 0, .string ⟨#[]⟩, .string ⟨#[]⟩, .string ⟨#[]⟩, .string ⟨#[]⟩] 155) (ext_alloc (.cells #[.int .i64 q, .string u, .int .i64 0, .string p, .string b] 108) (ext_refl w)))
  have HE := Lib.hid H2.1
  have HZ := Lib.hid H2.2.1
  clear H2
  go_enter Tryz.func99, Tryz.ntmps99
  go_wp2_with fail
  generalize (w.alloc (.cells #[.int .i64 q, .string u, .int .i64 0, .string p, .string b] 108)).alloc (.cells #[.int .i64 0, .string ⟨#[]⟩, .string ⟨#[]⟩, .string ⟨#[]⟩, .string ⟨#[]⟩] 155) = w1 at HE HZ X2 ⊢
  obtain ⟨c0, c1, c2, c3, c4⟩ := rec_cells (r := ⟨q, u, 0, p, b⟩) HE.out
  dsimp only at c0 c1 c2 c3 c4
  have le := lt_of_heap HE.out
  go_wp2_with fail
  have G1 := GG.out.ext X2.out
  refine (PS _ G1.maxl G1.words).mono ?_
  rintro _ w2 ⟨rfl, hx⟩
  have E3 := Lib.hid (((ext_iff.1 hx).block _ (lt_of_heap HE.out)).trans HE.out)
  have Z3 := Lib.hid (((ext_iff.1 hx).block _ (lt_of_heap HZ.out)).trans HZ.out)
  have X3 := Lib.hid (ext_trans X2.out hx)
  clear hx c0 c1 c2 c3 c4 le HE HZ X2 G1
  obtain ⟨d0, d1, d2, d3, d4⟩ := rec_cells (r := ⟨q, u, 0, p, b⟩) E3.out
  dsimp only at d0 d1 d2 d3 d4
  have le := lt_of_heap E3.out
  obtain ⟨y0, y1, y2, y3, y4⟩ := ev_cells Z3.out
  have lz := lt_of_heap Z3.out
  have fz := free_of_heap Z3.out
  have SR := Lib.hid (setEv5 Z3.out (.int .i64 3) (.string u) (.string t) (.string rw_) (.string v))
  go_wp2_with fail
  generalize (((((w2.setCell ⟨w.heap.size + 1, 0, none⟩ (.int .i64 3)).setCell ⟨w.heap.size + 1, 1, none⟩ (.string u)).setCell ⟨w.heap.size + 1, 2, none⟩ (.string t)).setCell ⟨w.heap.size + 1, 3, none⟩ (.string rw_)).setCell ⟨w.heap.size + 1, 4, none⟩ (.string v)) = w9 at SR ⊢
  obtain ⟨SR1, SR2⟩ := SR.out
  exact ret_cells rfl rfl ((heap_alloc_old w9 _ (lt_of_heap SR1)).trans SR1) Tryz.underlying155 rfl (by kernel_rfl) rfl rfl (HP.out _ _ ⟨rfl, ext_alloc _ (ext_of ((ext_iff.1 X3.out).grown SR2 (ext_iff.1 X3.out).size (fun j e => by cases e; omega)))⟩)
set_option maxRecDepth 100000 in
set_option maxHeartbeats 4000000 in
/-- A record that is read. -/
theorem fopen_kept (e : Ev) (r : Rec) (w : World) (V : Blk) (vb n : Nat) (sec : ByteArray) (many : ByteArray → Nat) (has : ByteArray → Bool) (hv : vaultIn w V vb n sec many has) (hG : Glob w V) (h : isTold sec r e) (hm : r.gen ≤ (many r.subject : Nat)) (hk : e.kind ≠ 3) (hl : lostR many has r = false) :
    Calls Tryz.prog 99 #[.pointer (some ⟨vb, 0, none⟩), .agg (recV r)] w (OpenPost w many has r e) := by
  have hz := h.small
  obtain ⟨hg, hb⟩ := h.kept hk
  have HP : Hid (∀ x w', (x = .returned (.tuple #[.agg (evV e), .nilIface]) ∧ ∃ y, w' = ext w y) → OpenPost w many has r e x w') := Lib.hid fun x w' hx => ⟨by rw [hx.1]; unfold openV; rw [hl]; rfl, hx.2⟩
  generalize OpenPost w many has r e = P at HP ⊢
  have hs := h.subj
  obtain ⟨hp1, hp2⟩ := parse_of_print e h.right
  have hps := (print_short h.right).1
  have hpz : (mkT (printL e)).size ≤ 400 := by show (printL e).toArray.size ≤ 400; rw [List.size_toArray]; omega
  have PS := fun W hM hW => parse_any (mkT (printL e)) W (by omega) hM hW
  unfold ParsePost at PS
  rw [show mkT (printL e) = (⟨(printL e).toArray⟩ : ByteArray) from rfl, hp1, hp2] at PS
  have KY := fun W hV => vkey_in r.subject r.gen W V vb n sec many has hV (by omega) hg hm
  unfold lostR at hl
  have hl2 : (decide (r.gen < (many r.subject : Nat)) || !has r.subject) = false := by
    rw [show decide (r.gen ≠ 0) = true from decide_eq_true (by omega), Bool.true_and] at hl; exact hl
  rw [hl2, if_neg (by simp)] at KY
  have hne : (r.gen == 0) = false := by simp; omega
  have hne2 : (r.gen != 0) = true := by simp; omega
  have hke : (e.kind == 3) = false := by simp [hk]
  have OP := fun W hR => open_any (keyS sec r.subject r.gen.toNat) (nonceR r) (withR r) r.body W (keyS_size _ _ _) (nonceR_size r) (by rw [withR_size]; omega) hR (by rw [hb, hs]; exact opens_seal _ _ _ _ hpz)
  have hob : (⟨(openB (keyS sec r.subject r.gen.toNat) (nonceR r) r.body).toArray⟩ : ByteArray) = (⟨(printL e).toArray⟩ : ByteArray) := by
    rw [hb, hs]
    have := openB_seal (keyS sec e.subject r.gen.toNat) (nonceR r) (withR r) (mkT (printL e))
    unfold mkS
    rw [this]; rfl
  rw [hob] at OP
  have NN := fun W => nonce_any r W
  have WW := fun W hR => with_any r W (by omega) hR
  have HV := Lib.hid hv
  have GG := Lib.hid hG
  generalize (⟨(printL e).toArray⟩ : ByteArray) = pb at PS OP
  generalize keyS sec r.subject r.gen.toNat = key at KY OP
  generalize nonceR r = nn at NN OP
  generalize withR r = ww at WW OP
  clear h hp1 hp2 hz hG hv hl hl2 hpz hps hob hb hg hm hk
  obtain ⟨q, s, g, p, b⟩ := r
  dsimp only at hs
  subst hs
  obtain ⟨k, u, t, rw_, v⟩ := e
  unfold recV at NN WW
  unfold recV
  unfold evV at PS HP
  dsimp only at PS HP KY NN WW OP hne hne2 hke ⊢
  have H2 := two_new w (.cells #[.int .i64 q, .string u, .int .i64 g, .string p, .string b] 108) (.cells #[.int .i64 0, .string ⟨#[]⟩, .string ⟨#[]⟩, .string ⟨#[]⟩, .string ⟨#[]⟩] 155)
  have X2 := Lib.hid (ext_alloc (.cells #[.int .i64 0, .string ⟨#[]⟩, .string ⟨#[]⟩, .string ⟨#[]⟩, .string ⟨#[]⟩] 155) (ext_alloc (.cells #[.int .i64 q, .string u, .int .i64 g, .string p, .string b] 108) (ext_refl w)))
  have HE := Lib.hid H2.1
  have HZ := Lib.hid H2.2.1
  clear H2
  go_enter Tryz.func99, Tryz.ntmps99
  go_wp2_with fail
  generalize (w.alloc (.cells #[.int .i64 q, .string u, .int .i64 g, .string p, .string b] 108)).alloc (.cells #[.int .i64 0, .string ⟨#[]⟩, .string ⟨#[]⟩, .string ⟨#[]⟩, .string ⟨#[]⟩] 155) = w1 at HE HZ X2 ⊢
  obtain ⟨c0, c1, c2, c3, c4⟩ := rec_cells (r := ⟨q, u, g, p, b⟩) HE.out
  dsimp only at c0 c1 c2 c3 c4
  have le := lt_of_heap HE.out
  go_wp2_with fail
  refine (KY _ (HV.out.ext X2.out)).mono ?_
  rintro _ w2 ⟨rfl, rfl⟩
  have G1 := Lib.hid (GG.out.ext X2.out)
  go_wp2_with fail
  refine wp_region_ext (by kernel_rfl) (by kernel_rfl) ?_
  repeat (go_big_quiet_step ((first | (go_at_call 129; refine (NN _).mono ?_; rintro _ _ ⟨rfl, hx⟩; exact ⟨rfl, ext_trans ⟨_, rfl⟩ hx⟩) | (go_at_call 130; refine (WW _ (Rounds_ext G1.out.rounds ⟨_, rfl⟩)).mono ?_; rintro _ _ ⟨rfl, hx⟩; exact ⟨rfl, ext_trans ⟨_, rfl⟩ hx⟩) | (go_at_call 128; refine (OP _ (Rounds_ext G1.out.rounds ⟨_, rfl⟩)).mono ?_; rintro _ _ ⟨rfl, hx⟩; exact ⟨rfl, ext_trans ⟨_, rfl⟩ hx⟩))))
  refine wpQuiet_nil ?_
  rintro _ ⟨x, rfl⟩
  have HX : Hid (∃ x', ext w1 x = ext w1 x') := Lib.hid ⟨x, rfl⟩
  generalize ext w1 x = wx at HX ⊢
  have EX := Lib.hid (((ext_iff.1 HX.out).block _ (lt_of_heap HE.out)).trans HE.out)
  have ZX := Lib.hid (((ext_iff.1 HX.out).block _ (lt_of_heap HZ.out)).trans HZ.out)
  have GX := Lib.hid (G1.out.ext HX.out)
  have XX := Lib.hid (ext_trans X2.out HX.out)
  clear c0 c1 c2 c3 c4 le HE HZ X2 G1 HX NN WW OP KY HV
  go_wp2_with fail
  refine (PS _ GX.out.maxl GX.out.words).mono ?_
  rintro _ w2 ⟨rfl, hx⟩
  have E3 := Lib.hid (((ext_iff.1 hx).block _ (lt_of_heap EX.out)).trans EX.out)
  have Z3 := Lib.hid (((ext_iff.1 hx).block _ (lt_of_heap ZX.out)).trans ZX.out)
  have X3 := Lib.hid (ext_trans XX.out hx)
  clear hx EX ZX XX GX
  obtain ⟨d0, d1, d2, d3, d4⟩ := rec_cells (r := ⟨q, u, g, p, b⟩) E3.out
  dsimp only at d0 d1 d2 d3 d4
  have le := lt_of_heap E3.out
  obtain ⟨y0, y1, y2, y3, y4⟩ := ev_cells Z3.out
  have lz := lt_of_heap Z3.out
  have fz := free_of_heap Z3.out
  have SR := Lib.hid (setEv5 Z3.out (.int .i64 k) (.string u) (.string t) (.string rw_) (.string v))
  go_wp2_with fail
  generalize (((((w2.setCell ⟨w.heap.size + 1, 0, none⟩ (.int .i64 k)).setCell ⟨w.heap.size + 1, 1, none⟩ (.string u)).setCell ⟨w.heap.size + 1, 2, none⟩ (.string t)).setCell ⟨w.heap.size + 1, 3, none⟩ (.string rw_)).setCell ⟨w.heap.size + 1, 4, none⟩ (.string v)) = w9 at SR ⊢
  obtain ⟨SR1, SR2⟩ := SR.out
  exact ret_cells rfl rfl ((heap_alloc_old w9 _ (lt_of_heap SR1)).trans SR1) Tryz.underlying155 rfl (by kernel_rfl) rfl rfl (HP.out _ _ ⟨rfl, ext_alloc _ (ext_of ((ext_iff.1 X3.out).grown SR2 (ext_iff.1 X3.out).size (fun j e => by cases e; omega)))⟩)
theorem fopen_any (e : Ev) (r : Rec) (w : World) (V : Blk) (vb n : Nat) (sec : ByteArray) (many : ByteArray → Nat) (has : ByteArray → Bool) (hv : vaultIn w V vb n sec many has) (hG : Glob w V) (h : isTold sec r e) (hm : r.gen ≤ (many r.subject : Nat)) :
    Calls Tryz.prog 99 #[.pointer (some ⟨vb, 0, none⟩), .agg (recV r)] w (OpenPost w many has r e) := by
  cases hl : lostR many has r with
  | true => exact fopen_lost e r w V vb n sec many has hv h hm hl
  | false =>
    by_cases hk : e.kind = 3
    · exact fopen_gone e r w V vb sec many has hG h hk
    · exact fopen_kept e r w V vb n sec many has hv hG h hm hk hl
end Go.Proofs.YtnkmckdefiblhaaGreatDoor
namespace Go.Proofs.YtnkmckdefiblhaaGreatDoor
open Go.RowKit Go.Shelf

abbrev HR (vb : Nat) (seq : Nat) (mark : ByteArray) (lost : Nat) : Hole := ⟨[.pointer (some ⟨vb, 0, none⟩), .int .i64 seq, .string mark], [.int .i64 lost], 164⟩
/-- A reader: D names its blocks; vb: its vault. -/
structure rdAt (w : World) (D : Blk) (rb vb n : Nat) (R : RdM) (tm : Option Nat) : Prop where
  tab : tabAt w rb (HR vb R.seq R.mark R.lost) tm n R.T
  rb_ : D rb
  tm_ : ∀ b, tm = some b → D b
  lt : ∀ i, D i → i < w.heap.size
  sq : R.seq ≤ 1048576
  lo : R.lost ≤ R.seq
def rdIn (w : World) (D : Blk) (rb vb n : Nat) (R : RdM) : Prop := ∃ tm, rdAt w D rb vb n R tm
theorem rdIn.same {w w' : World} {D : Blk} {rb vb n : Nat} {R : RdM} (h : rdIn w D rb vb n R) (hk : ∀ i, D i → w'.heap[i]? = w.heap[i]?) (hs : w.heap.size ≤ w'.heap.size) : rdIn w' D rb vb n R := by
  obtain ⟨tm, h⟩ := h
  exact ⟨tm, h.tab.same (hk _ h.rb_) (fun b hb => hk _ (h.tm_ b hb)), h.rb_, h.tm_, fun i hi => Nat.lt_of_lt_of_le (h.lt i hi) hs, h.sq, h.lo⟩
theorem rdIn.lt {w : World} {D : Blk} {rb vb n : Nat} {R : RdM} (h : rdIn w D rb vb n R) : ∀ i, D i → i < w.heap.size := by
  obtain ⟨tm, h⟩ := h
  exact h.lt
theorem rdIn.ext {w w' : World} {D : Blk} {rb vb n : Nat} {R : RdM} (h : rdIn w D rb vb n R) (hx : ∃ x, w' = Go.Proofs.YtnkmckdefiblhaaGreatDoor.ext w x) : rdIn w' D rb vb n R :=
  h.same (fun i hi => (ext_iff.1 hx).block i (h.lt i hi)) (ext_iff.1 hx).size
theorem rdIn.step {w w' : World} {D G G' : Blk} {rb vb n : Nat} {R : RdM} (h : rdIn w D rb vb n R) (g : Go.Proofs.YtnkmckdefiblhaaGreatDoor.step w w' G G') (ha : apart G D) : rdIn w' D rb vb n R :=
  h.same (g.kept ha h.lt) g.size
theorem rdIn.mono {w : World} {D : Blk} {rb vb n n' : Nat} {R : RdM} (h : rdIn w D rb vb n R) (hn : n ≤ n') : rdIn w D rb vb n' R := by
  obtain ⟨tm, h⟩ := h
  exact ⟨tm, h.tab.mono hn, h.rb_, h.tm_, h.lt, h.sq, h.lo⟩
theorem rdIn.once {w : World} {D : Blk} {rb vb n : Nat} {R : RdM} (h : rdIn w D rb vb n R) : Once R.T := by
  obtain ⟨tm, h⟩ := h
  exact h.tab.once
theorem rd_cells {w : World} {rb vb n : Nat} {sq lo : Nat} {mk : ByteArray} {T : List Cell} {tm : Option Nat} (h : tabAt w rb (HR vb sq mk lo) tm n T) :
    w.cell? ⟨rb, 0, none⟩ = some (.pointer (some ⟨vb, 0, none⟩)) ∧ w.cell? ⟨rb, 1, none⟩ = some (.int .i64 sq) ∧ w.cell? ⟨rb, 2, none⟩ = some (.string mk) ∧ w.cell? ⟨rb, 4, none⟩ = some (.int .i64 lo) ∧ rb < w.heap.size := by
  refine ⟨?_, ?_, ?_, ?_, lt_of_heap h.blk⟩ <;> (rw [cell_in, h.blk]; rfl)
set_option maxRecDepth 100000 in
theorem rnew_any (vb : Nat) (w : World) : Calls Tryz.prog 95 #[.pointer (some ⟨vb, 0, none⟩)] w fun r w' => ∃ rb D, r = .returned (.tuple #[.pointer (some ⟨rb, 0, none⟩), .nilIface]) ∧ rdIn w' D rb vb 0 RD0 ∧ step w w' none0 D ∧ ∃ x, w' = ext w x := by
  go_enter Tryz.func95, Tryz.ntmps95
  go_wp2_with fail
  go_ret2
  refine ⟨w.heap.size, fun i => i = w.heap.size, rfl, ⟨none, ⟨heap_alloc_at w _, (fun _ => rfl), (fun b hb => by cases hb)⟩, rfl, (fun b hb => by cases hb), (by rintro i rfl; simp), by decide, by decide⟩, ?_, ext_alloc _ (ext_refl _)⟩
  refine (step.alloc w _ none0).more ?_
  rintro i rfl
  exact .inr ⟨Nat.le_refl _, by simp⟩
set_option maxRecDepth 100000 in
theorem rlost_any (w : World) (D : Blk) (rb vb n : Nat) (R : RdM) (h : rdIn w D rb vb n R) :
    Calls Tryz.prog 65 #[.pointer (some ⟨rb, 0, none⟩)] w fun r w' => r = .returned (.int .i64 R.lost) ∧ w = w' := by
  obtain ⟨tm, h⟩ := h
  obtain ⟨c0, c1, c2, c4, lt⟩ := rd_cells h.tab
  clear h
  go_enter Tryz.func65, Tryz.ntmps65
  go_wp2_with fail
  go_ret
  exact ⟨rfl, rfl⟩
set_option maxRecDepth 100000 in
theorem rat_any (w : World) (D : Blk) (rb vb n : Nat) (R : RdM) (h : rdIn w D rb vb n R) :
    Calls Tryz.prog 67 #[.pointer (some ⟨rb, 0, none⟩)] w fun r w' => r = .returned (.tuple #[.int .i64 R.seq, .string R.mark]) ∧ ∃ x, w' = ext w x := by
  obtain ⟨tm, h⟩ := h
  obtain ⟨c0, c1, c2, c4, lt⟩ := rd_cells h.tab
  clear h
  go_enter Tryz.func67, Tryz.ntmps67
  go_wp2_with fail
  refine wp_region_ext (by kernel_rfl) (by kernel_rfl) ?_
  repeat (go_big_quiet_step (fail))
  refine wpQuiet_nil ?_
  rintro _ ⟨x, rfl⟩
  have HX : Hid (∃ x', ext w x = ext w x') := Lib.hid ⟨x, rfl⟩
  generalize ext w x = wx at HX ⊢
  go_wp2_with fail
  go_ret2
  exact ⟨rfl, HX.out⟩
set_option maxRecDepth 100000 in
theorem rcells_any (w : World) (D : Blk) (rb vb n : Nat) (R : RdM) (h : rdIn w D rb vb n R) (hn : n ≤ 1048576) :
    Calls Tryz.prog 68 #[.pointer (some ⟨rb, 0, none⟩)] w (RowsPost w R.T) := by
  obtain ⟨tm, h⟩ := h
  have CE := cells_any w rb 3 (HR vb R.seq R.mark R.lost) rfl tm n R.T h.tab hn
  obtain ⟨c0, c1, c2, c4, lt⟩ := rd_cells h.tab
  clear h
  go_enter Tryz.func68, Tryz.ntmps68
  go_wp2_with fail
  refine CE.mono ?_
  rintro _ w1 ⟨v, rfl, h2⟩
  have H2 := Lib.hid h2
  clear h2 CE
  go_wp2_with fail
  go_ret
  exact ⟨v, rfl, H2.out⟩
end Go.Proofs.YtnkmckdefiblhaaGreatDoor
namespace Go.Proofs.YtnkmckdefiblhaaGreatDoor
open Go.RowKit Go.Shelf

set_option maxRecDepth 100000 in
set_option maxHeartbeats 1000000 in
theorem read_old (x : Rec) (w : World) (D : Blk) (rb vb n : Nat) (R : RdM) (h : rdIn w D rb vb n R) (h1 : 1 ≤ x.seq) (h2 : x.seq ≤ R.seq) :
    Calls Tryz.prog 66 #[.pointer (some ⟨rb, 0, none⟩), .agg (recV x)] w fun r w' => r = .returned .nilIface ∧ ∃ x, w' = ext w x := by
  obtain ⟨tm, h⟩ := h
  have B0 := Lib.hid h.tab
  have hq := h.sq
  clear h
  obtain ⟨q, s, g, p, b⟩ := x
  unfold recV
  dsimp only at h1 h2 ⊢
  have X1 := Lib.hid (ext_alloc (.cells #[.int .i64 q, .string s, .int .i64 g, .string p, .string b] 108) (ext_refl w))
  have HE := Lib.hid (heap_alloc_at w (.cells #[.int .i64 q, .string s, .int .i64 g, .string p, .string b] 108))
  have B1 := Lib.hid (B0.out.ext X1.out)
  clear B0
  have d1 : decide (q ≥ 1) = true := decide_eq_true h1
  have d2 : decide (q ≤ (R.seq : Int)) = true := decide_eq_true h2
  go_enter Tryz.func66, Tryz.ntmps66
  go_wp2_with fail
  generalize w.alloc (.cells #[.int .i64 q, .string s, .int .i64 g, .string p, .string b] 108) = w1 at HE X1 B1 ⊢
  obtain ⟨c0, c1, c2, c3, c4⟩ := rec_cells (r := ⟨q, s, g, p, b⟩) HE.out
  dsimp only at c0 c1 c2 c3 c4
  have le := lt_of_heap HE.out
  obtain ⟨z0, z1, z2, z4, lt⟩ := rd_cells B1.out
  refine wp_region_ext (by kernel_rfl) (by kernel_rfl) ?_
  repeat (go_big_quiet_step (fail))
  refine wpQuiet_nil ?_
  rintro _ ⟨x, rfl⟩
  have HX := Lib.hid (ext_trans X1.out ⟨x, rfl⟩)
  generalize ext w1 x = wx at HX ⊢
  go_wp2_with fail
  go_ret
  exact ⟨rfl, HX.out⟩
end Go.Proofs.YtnkmckdefiblhaaGreatDoor
