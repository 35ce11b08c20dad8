/- The vault: Key, Forget, New (the walks). · Byte slices that a call makes itself: append, and the string of them. -/
import Derived.Test.YtgckpfeeioljeaaGreatDoorProg
import Derived.Test.YtgckpfeeioljeaaGreatDoorG5
import Derived.Test.YtgckpfeeioljeaaGreatDoorWords
namespace Go.Proofs.YtgckpfeeioljeaaGreatDoor
open Go.RowKit

abbrev mapI (w : World) (b n : Nat) (M : List (ByteArray × I64)) : Prop := mapS (fun x : I64 => (.lit (.int .i64 x.1) : DataW Unit)) (plainElem Tryz.prog 3) w b n M
abbrev mapT (w : World) (b n : Nat) (M : List (ByteArray × Txt)) : Prop := mapS (fun x : Txt => (.lit (.string x.1.data.toList) : DataW Unit)) (plainElem Tryz.prog 9) w b n M
/-- A vault: its secret, how many keys each subject had, those that are there. -/
structure vaultAt (w : World) (vb mb tb n : Nat) (sec : ByteArray) (M : List (ByteArray × I64)) (T : List (ByteArray × Txt)) : Prop where
  blk : w.heap[vb]? = some (.cells #[.string sec, .map (some mb), .map (some tb)] 117 (0, 0))
  many : mapI w mb n M
  there : mapT w tb n T
  ne1 : mb ≠ tb
  ne2 : mb ≠ vb
  ne3 : tb ≠ vb
theorem vaultAt.kept {w w' : World} {vb mb tb n : Nat} {sec : ByteArray} {M : List (ByteArray × I64)} {T : List (ByteArray × Txt)} {row : Option Nat} (h : vaultAt w vb mb tb n sec M T) (g : w.grownBy w' row) (h1 : some vb ≠ row) (h2 : some mb ≠ row) (h3 : some tb ≠ row) : vaultAt w' vb mb tb n sec M T :=
  ⟨(g.block vb (lt_of_heap h.blk) h1).trans h.blk, h.many.kept g h2, h.there.kept g h3, h.ne1, h.ne2, h.ne3⟩
theorem vaultAt.ext {w w' : World} {vb mb tb n : Nat} {sec : ByteArray} {M : List (ByteArray × I64)} {T : List (ByteArray × Txt)} (h : vaultAt w vb mb tb n sec M T) (hx : ∃ x, w' = ext w x) : vaultAt w' vb mb tb n sec M T :=
  h.kept (grown_below (ext_iff.1 hx) none) (by simp) (by simp) (by simp)
theorem vaultAt.cells {w : World} {vb mb tb n : Nat} {sec : ByteArray} {M : List (ByteArray × I64)} {T : List (ByteArray × Txt)} (h : vaultAt w vb mb tb n sec M T) :
    w.cell? ⟨vb, 0, none⟩ = some (.string sec) ∧ w.cell? ⟨vb, 1, none⟩ = some (.map (some mb)) ∧ w.cell? ⟨vb, 2, none⟩ = some (.map (some tb)) := by
  refine ⟨?_, ?_, ?_⟩ <;> (rw [cell_in, h.blk]; rfl)
/-- What Key hands back. -/
def keyV (f : Option Txt) (m g : Int) : Value :=
  if (decide (g < 1) || decide (m < g)) = true then .tuple #[.string ⟨#[]⟩, errV 7]
  else if (decide (g < m) || !f.isSome) = true then .tuple #[.string ⟨#[]⟩, errV 8]
  else .tuple #[.string (f.getD ⟨⟨#[]⟩, by decide⟩).1, .nilIface]
set_option maxRecDepth 100000 in
set_option maxHeartbeats 4000000 in
theorem vkey_any (s : ByteArray) (g : Int) (w : World) (vb mb tb n : Nat) (sec : ByteArray) (M : List (ByteArray × I64)) (T : List (ByteArray × Txt)) (h : vaultAt w vb mb tb n sec M T) (hs : s.size ≤ maxLen) :
    Calls Tryz.prog 56 #[.pointer (some ⟨vb, 0, none⟩), .string s, .int .i64 g] w fun r w' => r = .returned (keyV (findS s T) ((findS s M).getD ⟨0, by decide⟩).1 g) ∧ w = w' := by
  obtain ⟨c0, c1, c2⟩ := h.cells
  have l1 := h.many.look elemI Tryz.underlying115 hs
  have l2 := h.there.look_ok elemT Tryz.underlying114 hs
  have hvb := lt_of_heap h.blk
  clear h
  generalize (findS s M).getD ⟨0, by decide⟩ = m at l1 ⊢
  obtain ⟨m, hm⟩ := m
  dsimp only at l1 ⊢
  generalize findS s T = f at l2 ⊢
  have hV : Hid (keyV f m g = keyV f m g) := Lib.hid rfl
  generalize hk : keyV f m g = V
  have HK := Lib.hid hk
  clear hk hV
  unfold keyV at HK
  cases f with
  | none =>
    dsimp only [Option.getD, Option.isSome] at l2 HK
    by_cases h1 : g < 1
    · have hv := HK.out.symm.trans (if_pos (by simp [h1]))
      clear HK
      have hv := Lib.hid hv
      go_enter Tryz.func56, Tryz.ntmps56
      go_wp2_with fail
      go_ret2
      exact ⟨by rw [hv.out]; rfl, rfl⟩
    · by_cases h2 : m < g
      · have hv := Lib.hid (HK.out.symm.trans (if_pos (by simp [h2])))
        clear HK
        go_enter Tryz.func56, Tryz.ntmps56
        go_wp2_with fail
        go_ret2
        exact ⟨by rw [hv.out]; rfl, rfl⟩
      · have hv := Lib.hid ((HK.out.symm.trans (if_neg (by simp; omega))).trans (if_pos (by simp)))
        clear HK
        by_cases h3 : g < m
        all_goals
          go_enter Tryz.func56, Tryz.ntmps56
          go_wp2_with fail
          go_ret2
          exact ⟨by rw [hv.out]; rfl, rfl⟩
  | some k =>
    dsimp only [Option.getD, Option.isSome] at l2 HK
    by_cases h1 : g < 1
    · have hv := Lib.hid (HK.out.symm.trans (if_pos (by simp [h1])))
      clear HK
      go_enter Tryz.func56, Tryz.ntmps56
      go_wp2_with fail
      go_ret2
      exact ⟨by rw [hv.out]; rfl, rfl⟩
    · by_cases h2 : m < g
      · have hv := Lib.hid (HK.out.symm.trans (if_pos (by simp [h2])))
        clear HK
        go_enter Tryz.func56, Tryz.ntmps56
        go_wp2_with fail
        go_ret2
        exact ⟨by rw [hv.out]; rfl, rfl⟩
      · by_cases h3 : g < m
        · have hv := Lib.hid ((HK.out.symm.trans (if_neg (by simp; omega))).trans (if_pos (by simp [h3])))
          clear HK
          go_enter Tryz.func56, Tryz.ntmps56
          go_wp2_with fail
          go_ret2
          exact ⟨by rw [hv.out]; rfl, rfl⟩
        · have hv := Lib.hid ((HK.out.symm.trans (if_neg (by simp; omega))).trans (if_neg (by simp; omega)))
          clear HK
          go_enter Tryz.func56, Tryz.ntmps56
          go_wp2_with fail
          go_ret2
          exact ⟨by rw [hv.out]; rfl, rfl⟩
set_option maxRecDepth 100000 in
set_option maxHeartbeats 4000000 in
theorem vforget_any (s : ByteArray) (w : World) (vb mb tb n : Nat) (sec : ByteArray) (M : List (ByteArray × I64)) (T : List (ByteArray × Txt)) (h : vaultAt w vb mb tb n sec M T) (hs : s.size ≤ maxLen) :
    Calls Tryz.prog 73 #[.pointer (some ⟨vb, 0, none⟩), .string s] w fun r w' => r = .returned (if (findS s T).isSome = true then .nilIface else errV 8) ∧ vaultAt w' vb mb tb n sec M (if (findS s T).isSome = true then delS s T else T) ∧ w.grownBy w' (some tb) := by
  obtain ⟨c0, c1, c2⟩ := h.cells
  have l2 := h.there.look_ok elemT Tryz.underlying114 hs
  obtain ⟨wd, hdel, hm, hg⟩ := h.there.del Tryz.underlying114 hs 0
  have HV := Lib.hid h
  have hvb := lt_of_heap h.blk
  have HD : Hid (vaultAt wd vb mb tb n sec M (delS s T)) := Lib.hid ⟨(hg.block vb hvb (fun e => h.ne3 (by injection e with e; exact e.symm))).trans h.blk, h.many.kept hg (fun e => h.ne1 (by injection e)), hm, h.ne1, h.ne2, h.ne3⟩
  have HG := Lib.hid hg
  clear h hm hg
  generalize (findS s T).getD ⟨⟨#[]⟩, by decide⟩ = k at l2
  obtain ⟨k, hk⟩ := k
  dsimp only at l2
  cases hf : (findS s T).isSome with
  | false =>
    rw [hf] at l2
    clear hf hdel HD
    go_enter Tryz.func73, Tryz.ntmps73
    go_wp2_with fail
    go_ret
    exact ⟨rfl, HV.out, grown_refl _ _⟩
  | true =>
    rw [hf] at l2
    clear hf
    go_enter Tryz.func73, Tryz.ntmps73
    go_wp2_with fail
    go_ret
    exact ⟨rfl, HD.out, HG.out⟩
set_option maxRecDepth 100000 in
set_option maxHeartbeats 4000000 in
theorem vnew_bad (sec : ByteArray) (w : World) (h : sec.size ≠ 16) : Calls Tryz.prog 45 #[.string sec] w fun r w' => r = .returned (.tuple #[.pointer none, errV 1]) ∧ w = w' := by
  have hb : ((sec.size : Int) != 16) = true := by simp; omega
  have hn : ¬ ((sec.size : Int) = 16) := by omega
  go_enter Tryz.func45, Tryz.ntmps45
  go_wp2_with fail
  go_ret2
  exact ⟨rfl, rfl⟩
set_option maxRecDepth 100000 in
set_option maxHeartbeats 4000000 in
theorem vnew_any (sec : ByteArray) (w : World) (h : sec.size = 16) : Calls Tryz.prog 45 #[.string sec] w fun r w' => ∃ vb mb tb, r = .returned (.tuple #[.pointer (some ⟨vb, 0, none⟩), .nilIface]) ∧ vaultAt w' vb mb tb 0 sec [] [] ∧ (w.heap.size ≤ vb ∧ w.heap.size ≤ mb ∧ w.heap.size ≤ tb) ∧ ∃ x, w' = Go.Proofs.YtgckpfeeioljeaaGreatDoor.ext w x := by
  have hb : ((sec.size : Int) != 16) = false := by rw [h]; rfl
  have hmm := @run_makeMap Tryz.prog
  clear h
  go_enter Tryz.func45, Tryz.ntmps45
  go_wp2_with fail
  go_ret2
  have e1 : (w.alloc (.map #[] 0)).heap.size = w.heap.size + 1 := by simp
  have e2 : ((w.alloc (.map #[] 0)).alloc (.map #[] 0)).heap.size = w.heap.size + 1 + 1 := by simp
  have A := heap_alloc_at ((w.alloc (.map #[] 0)).alloc (.map #[] 0)) (.cells #[.string sec, .map (some w.heap.size), .map (some (w.heap.size + 1))] 117)
  rw [e2] at A
  have B1 : mapI _ w.heap.size 0 [] := ((mapS.made w).kept (World.grownBy_alloc (w.alloc (.map #[] 0)) (.map #[] 0) none) (by simp)).kept (World.grownBy_alloc _ (.cells #[.string sec, .map (some w.heap.size), .map (some (w.heap.size + 1))] 117) none) (by simp)
  have B2 : mapT _ _ 0 [] := (mapS.made (w.alloc (.map #[] 0))).kept (World.grownBy_alloc _ (.cells #[.string sec, .map (some w.heap.size), .map (some (w.heap.size + 1))] 117) none) (by simp)
  rw [e1] at B2
  exact ⟨_, _, _, rfl, ⟨A, B1, B2, by omega, by omega, by omega⟩, by omega, ext_alloc _ (ext_alloc _ (ext_alloc _ (ext_refl w)))⟩
end Go.Proofs.YtgckpfeeioljeaaGreatDoor
namespace Go.Proofs.YtgckpfeeioljeaaGreatDoor
open Go.RowKit

/-- Bytes as cells. -/
def B8 (l : List UInt8) : List Value := l.map fun b => .int .u8 (b.toNat : Int)
theorem B8_append (l m : List UInt8) : B8 (l ++ m) = B8 l ++ B8 m := by simp [B8]
theorem B8_length (l : List UInt8) : (B8 l).length = l.length := by simp [B8]
theorem B8_get {l : List UInt8} {j : Nat} {u : Value} (h : (B8 l)[j]? = some u) : ∃ b, l[j]? = some b ∧ u = .int .u8 (b.toNat : Int) := by
  simp only [B8, List.getElem?_map, Option.map_eq_some_iff] at h
  obtain ⟨b, h1, h2⟩ := h
  exact ⟨b, h1, h2.symm⟩
theorem B8_one (l : List UInt8) : ∀ u ∈ B8 l, u.oneCell' = true := by
  intro u hu
  simp only [B8, List.mem_map] at hu
  obtain ⟨b, _, rfl⟩ := hu
  rfl
theorem info8 : (Tryz.prog.info? 5).map (fun i => (i.zero, i.size, i.bytes)) = some (some (.int .u8 0), 1, 1) := by kernel_rfl
/-- The slice 'v' is the call's own (its blocks lie from 'base' on), and holds the bytes 'l'. -/
def ownsB (w : World) (base : Nat) (v : Value) (l : List UInt8) : Prop := w.ownsRow base 5 1 v l.length (B8 l)
theorem ownsB_nil (w : World) (base : Nat) : ownsB w base (.slice none 0 0) [] := World.ownsRow_nil _ _ _ _
theorem ownsB_ext {w : World} {base : Nat} {v : Value} {l : List UInt8} (h : ownsB w base v l) (x : More) : ownsB (ext w x) base v l :=
  World.ownsRow.kept h (grown_ext w x none) (by cases v.ownBlock <;> simp)
theorem ownsB_kept {w w' : World} {base : Nat} {v : Value} {l : List UInt8} {r : Nat} (h : ownsB w base v l) (hg : w.grownBy w' (some r)) (hr : r < base) : ownsB w' base v l := by
  refine World.ownsRow.kept h hg ?_
  obtain ⟨_, ⟨rfl, _⟩ | ⟨g, cap, cur, rfl, hb, _⟩⟩ := h
  · exact .inl rfl
  · right; simp only [Value.ownBlock]; intro e; injection e with e; omega

theorem ownsB_base {w : World} {base : Nat} {v : Value} {l : List UInt8} (h : ownsB w base v l) : ∀ g, v.ownBlock = some g → base ≤ g := by
  obtain ⟨_, ⟨rfl, _⟩ | ⟨g, cap, cur, rfl, hb, _⟩⟩ := h
  · intro g hg; simp [Value.ownBlock] at hg
  · intro g' hg; simp only [Value.ownBlock, Option.some.injEq] at hg; omega
/-- What else was there, behind an append. -/
theorem kept_owned {w w' : World} {base : Nat} {v : Value} {l : List UInt8} {k : Nat} {ob : Obj} (h : ownsB w base v l) (hg : w.grownBy w' v.ownBlock) (hk : w.heap[k]? = some ob) (hlt : k < base) : w'.heap[k]? = some ob :=
  (hg.block k (lt_of_heap hk) (fun e => by have := ownsB_base h k e.symm; omega)).trans hk

/-! ### '[]byte(s)': a row of bytes with something behind it -/
def rowB (xs : List UInt8) (sp : Array Value) : Array Value := (B8 xs).toArray ++ sp
theorem rowB_size (xs : List UInt8) (sp : Array Value) : (rowB xs sp).size = xs.length + sp.size := by simp [rowB, B8_length]
theorem rowB_get {xs : List UInt8} {sp : Array Value} {i : Nat} (h : i < xs.length) : (rowB xs sp)[i]? = some (.int .u8 (xs[i].toNat : Int)) := by
  unfold rowB
  rw [Array.getElem?_append_left (by simpa [B8_length] using h), List.getElem?_toArray]
  simp [B8, List.getElem?_eq_getElem h]
theorem rowB_set {xs : List UInt8} {sp : Array Value} {i : Nat} (h : i < xs.length) (b : UInt8) : (rowB xs sp).setIfInBounds i (.int .u8 (b.toNat : Int)) = rowB (xs.set i b) sp := by
  unfold rowB
  rw [Array.setIfInBounds_append_left (by simpa [B8_length] using h)]
  congr 1
  simp [B8, List.map_set]
theorem bytesRow_rowB (s : ByteArray) (cap : Nat) : ∃ sp, bytesRow s cap = rowB s.data.toList sp := by
  refine ⟨Array.replicate (cap - s.size) (.int .u8 0), ?_⟩
  unfold bytesRow rowB
  congr 1
  rw [← Array.toList_inj]; simp [B8]
theorem cell_of_rowB {w : World} {b : Nat} {xs : List UInt8} {sp : Array Value} {t : TypeId} {f : Nat × Nat} (h : w.heap[b]? = some (.cells (rowB xs sp) t f)) (i : Nat) (hi : i < xs.length) :
    w.cell? ⟨b, i, none⟩ = some (.int .u8 (xs[i].toNat : Int)) := by
  rw [cell_in, h]; simp [cellIn, rowB_get hi]
theorem free_of_rowB {w : World} {b : Nat} {xs : List UInt8} {sp : Array Value} {t : TypeId} {m : Nat} (h : w.heap[b]? = some (.cells (rowB xs sp) t (m, m + 1))) (hm : xs.length ≤ m) (i : Nat) (hi : i < xs.length) :
    w.frozen? ⟨b, i, none⟩ = false := by
  rw [frozen_in, h]; simp [frozenIn]; omega
theorem store_rowB {w : World} {x : More} {b i : Nat} {xs : List UInt8} {sp : Array Value} {t : TypeId} {f : Nat × Nat} {v : UInt8} (h : w.heap[b]? = some (.cells (rowB xs sp) t f)) (hi : i < xs.length) :
    ((ext w x).setCell ⟨b, i, none⟩ (.int .u8 (v.toNat : Int))).heap[b]? = some (.cells (rowB (xs.set i v) sp) t f) ∧ w.grownBy ((ext w x).setCell ⟨b, i, none⟩ (.int .u8 (v.toNat : Int))) (some b) := by
  have hb := lt_of_heap h
  constructor
  · rw [← rowB_set hi]; exact heap_setCell ((ext_heap hb).trans h) _
  · exact (grown_ext w x _).trans (grown_setCell _ _ _ _)
theorem string_of_rowB {w : World} {b cap : Nat} {xs : List UInt8} {sp : Array Value} {t : TypeId} {f : Nat × Nat} (h : w.heap[b]? = some (.cells (rowB xs sp) t f)) :
    (convert 118 9 (.slice (some ⟨b, 0, none⟩) xs.length cap)).run Tryz.prog w = .ok (.string ⟨xs.toArray⟩) w := by
  refine run_convert_bytes_back w 118 9 5 ⟨b, 0, none⟩ cap xs Tryz.underlying118 Tryz.underlying5 Tryz.underlying9 ?_
  intro j hj
  have hadd : (⟨b, 0, none⟩ : Addr).add j = ⟨b, j, none⟩ := by unfold Addr.add; split <;> simp_all
  rw [hadd, cell_of_rowB h j hj]
/-- '[]byte(s)' -/
theorem bytes_of_string (w : World) (s : ByteArray) : ∃ sp, (convert 9 118 (.string s)).run Tryz.prog w =
    .ok (.slice (some ⟨w.heap.size, 0, none⟩) s.size (grownCap w s.size 0 5)) (w.drew.alloc (.cells (rowB s.data.toList sp) 5 ((rowB s.data.toList sp).size, (rowB s.data.toList sp).size + 1))) := by
  obtain ⟨sp, h⟩ := bytesRow_rowB s (grownCap w s.size 0 5)
  refine ⟨sp, ?_⟩
  rw [← h]
  exact run_bytes_of_string w 9 118 5 s Tryz.underlying9 Tryz.underlying118 Tryz.underlying5

section
variable {ops : Array Oper} {rest : List Oper} {o : Oper} {a : Act} {w : World} {Q : Exit → Act → World → Prop}
/-- 'append(v, b0, b1, ..)': bytes laid in a block of their own, the newest. -/
theorem append_bytes (news : List UInt8) (base : Nat) (v : Value) (l : List UInt8) (s x : Operand) (cs : Array Value)
    (ho : o.op = .call { callee := .builtin .append, args := #[s, x], argTypes := #[118, 118] }) (hgd : o.guard = none) (hs : a.eval s = v) (c : Nat)
    (hx : a.eval x = .slice (some ⟨w.heap.size, 0, none⟩) news.length c) (hcs : cs = (B8 news).toArray) (hown : ownsB w base v l) (hlen : l.length + news.length ≤ 1099511627776) (hbase : base ≤ w.heap.size)
    (h : ∀ v' w', ownsB w' base v' (l ++ news) → w.grownBy w' v.ownBlock → wpList Tryz.prog ops Q rest (a.put o.dst v') w') : wpList Tryz.prog ops Q (o :: rest) a (w.alloc (.cells cs 5)) := by
  subst hcs
  obtain ⟨i0, hi, hz0, hz1, hz2⟩ := info_parts info8
  refine wpList_append_own _ hgd s x 118 ho base 5 i0 (.int .u8 0) 1 1 Tryz.underlying118 hi hz0 hz1 hz2 rfl (by decide) v l.length (B8 l) hs (World.ownsRow.alloc hown _)
    ⟨w.heap.size, 0, none⟩ news.length c (B8 news) hx (by rw [B8_length]; omega) ?_ (B8_one news) (by unfold maxLen; omega) (by omega) (by simp; omega) ?_
  · intro j u hj
    have hadd : (⟨w.heap.size, 0, none⟩ : Addr).add j = ⟨w.heap.size, j, none⟩ := by unfold Addr.add; split <;> simp_all
    rw [hadd, World.cell?_alloc_new, List.getElem?_toArray]
    exact hj
  · intro v' w' h1 h2 _
    exact h v' w' (by unfold ownsB; rw [B8_append, List.length_append]; exact h1) ((World.grownBy_alloc w _ _).trans h2)

/-- 'string(v)' -/
theorem string_of_owned {base : Nat} {v : Value} {l : List UInt8} (h : ownsB w base v l) : (convert 118 9 v).run Tryz.prog w = .ok (.string ⟨l.toArray⟩) w := by
  obtain ⟨hl, ⟨rfl, h0⟩ | ⟨g, cap, cur, rfl, hb, hh, hn, hc, hsz, hx⟩⟩ := h
  · have : l = [] := List.length_eq_zero_iff.1 h0
    subst this
    exact run_convert_bytes_nil w 118 5 Tryz.underlying118 Tryz.underlying5 0 0 9 Tryz.underlying9
  · refine run_convert_bytes_back w 118 9 5 ⟨g, 0, none⟩ cap l Tryz.underlying118 Tryz.underlying5 Tryz.underlying9 ?_
    intro j hj
    have hadd : (⟨g, 0, none⟩ : Addr).add j = ⟨g, j, none⟩ := by unfold Addr.add; split <;> simp_all
    rw [hadd, cell_in, hh]
    have h1 : (cur.toList.take (l.length * 1))[j]? = (B8 l)[j]? := by rw [hx]
    rw [List.getElem?_take_of_lt (by omega)] at h1
    simp only [B8, List.getElem?_map, List.getElem?_eq_getElem hj, Option.map_some, Array.getElem?_toList] at h1
    simp [cellIn, h1]
end
end Go.Proofs.YtgckpfeeioljeaaGreatDoor
