/- (*oublietteref.Vault).Subjects (the walk). -/
import Derived.Test.YtnmpchojhbmbmaaGreatDoorProg
import Derived.Test.YtnmpchojhbmbmaaGreatDoorG21
import Derived.Test.YtnmpchojhbmbmaaGreatDoorG25
import Derived.Test.YtnmpchojhbmbmaaGreatDoorShelfS
import Derived.Sort.OwnSorted
namespace Go.Proofs.YtnmpchojhbmbmaaGreatDoor
open Go.RowKit Go.Shelf

theorem infoTx : (Tryz.prog.info? 9).map (fun i => (i.zero, i.size, i.bytes)) = some (some (.string ⟨#[]⟩), 1, 16) := by kernel_rfl
def ownsTx (w : World) (base : Nat) (v : Value) (l : List ByteArray) : Prop := w.ownsRow base 9 1 v l.length (l.map Value.string)
theorem ownsTx.kept {w w' : World} {base : Nat} {v : Value} {l : List ByteArray} {row : Option Nat} (h : ownsTx w base v l) (hg : w.grownBy w' row) (hne : ∀ g, v.ownBlock = some g → some g ≠ row) : ownsTx w' base v l := by
  obtain ⟨h1, ⟨rfl, h2⟩ | ⟨g, cap, cur, rfl, hb, hh, h3⟩⟩ := h
  · exact ⟨h1, .inl ⟨rfl, h2⟩⟩
  · exact ⟨h1, .inr ⟨g, cap, cur, rfl, hb, (hg.block g (lt_of_heap hh) (hne g rfl)).trans hh, h3⟩⟩
theorem ownsTx.base {w : World} {base : Nat} {v : Value} {l : List ByteArray} (h : ownsTx w base v l) {g : Nat} (hg : v.ownBlock = some g) : base ≤ g ∧ g < w.heap.size := by
  obtain ⟨h1, ⟨rfl, h2⟩ | ⟨g', cap, cur, rfl, hb, hh, h3⟩⟩ := h
  · simp [Value.ownBlock] at hg
  · simp only [Value.ownBlock, Option.some.injEq] at hg
    subst hg
    exact ⟨hb, lt_of_heap hh⟩
theorem ownsTx_nil (w : World) (base : Nat) : ownsTx w base (.slice none 0 0) [] := ⟨rfl, .inl ⟨rfl, rfl⟩⟩
section
variable {ops : Array Oper} {rest : List Oper} {o : Oper} {a : Act} {w : World} {Q : Exit → Act → World → Prop}
/-- 'append(v, s)'. -/
theorem append_tx (base : Nat) (v : Value) (l : List ByteArray) (t : ByteArray) (s x : Operand) (cp : Nat)
    (ho : o.op = .call { callee := .builtin .append, args := #[s, x], argTypes := #[49, 49] }) (hgd : o.guard = none) (hs : a.eval s = v)
    (hx : a.eval x = .slice (some ⟨w.heap.size, 0, none⟩) 1 cp) (hown : ownsTx w base v l) (hlen : l.length ≤ 1048576) (hbase : base ≤ w.heap.size)
    (h : ∀ v' w', ownsTx w' base v' (l ++ [t]) → w.grownBy w' v.ownBlock → wpList Tryz.prog ops Q rest (a.put o.dst v') w') :
    wpList Tryz.prog ops Q (o :: rest) a (w.alloc (.cells #[.string t] 9)) := by
  obtain ⟨i0, hi, hz0, hz1, hz2⟩ := info_parts infoTx
  refine wpList_append_own_at _ hgd s x 49 ho base 9 i0 (.string ⟨#[]⟩) 1 16 Tryz.underlying49 hi hz0 hz1 hz2 rfl (by decide) v l.length (l.map Value.string) hs (World.ownsRow.alloc hown _)
    ⟨w.heap.size, 0, none⟩ 1 cp [.string t] hx rfl ?_ (by intro u hu; simp at hu; rw [hu]; rfl) (by unfold maxLen; omega) (by omega) (by simp; omega) ?_
  · intro j u hj
    have hadd : (⟨w.heap.size, 0, none⟩ : Addr).add j = ⟨w.heap.size, j, none⟩ := by unfold Addr.add; split <;> simp_all
    rw [hadd, World.cell?_alloc_new, show #[Value.string t] = ([Value.string t] : List Value).toArray from rfl, List.getElem?_toArray]
    exact hj
  · intro v' w' h1 h2 _ _
    refine h v' w' ?_ ((World.grownBy_alloc w _ _).trans h2)
    unfold ownsTx
    rw [List.length_append, List.map_append]
    exact h1
end
theorem low_row {W : World} {base base' : Nat} {e : TypeId} {size : Nat} {v : Value} {k : Nat} {xs : List Value} (h : W.ownsRow base e size v k xs) (hb : base' ≤ base) : W.ownsRow base' e size v k xs :=
  ⟨h.1, h.2.imp id fun ⟨g, cap, cur, h1, h2, h3⟩ => ⟨g, cap, cur, h1, Nat.le_trans hb h2, h3⟩⟩
theorem nodup_len {a b : List (List UInt8)} (ha : a.Nodup) (h : ∀ x ∈ a, x ∈ b) : a.length ≤ b.length := by
  induction a generalizing b with
  | nil => simp
  | cons x a ih =>
    have hx := h x (by simp)
    have hn := List.nodup_cons.1 ha
    have := ih (b := b.erase x) hn.2 fun y hy => (List.mem_erase_of_ne (fun e => hn.1 (by rw [← e]; exact hy))).2 (h y (by simp [hy]))
    rw [List.length_erase_of_mem hx] at this
    have := List.length_pos_of_mem hx
    simp; omega
theorem accT.len {M : List (ByteArray × Bool)} {left : Lit → Bool} {acc : List ByteArray} (h : accT M left acc) : acc.length ≤ M.length := by
  have := nodup_len (b := M.map fun p => txt p.1) h.once fun x hx => by
    obtain ⟨k, hk, rfl⟩ := List.mem_map.1 hx
    obtain ⟨p, hp, he, _⟩ := (h.iff k).1 hx
    exact List.mem_map.2 ⟨p, hp, he⟩
  simpa using this
theorem enc_txt (l : List ByteArray) : (l.map txt).map Go.Proofs.encStr = l.map Value.string := by
  rw [List.map_map]; exact List.map_congr_left fun k _ => rfl
theorem nodup_merge {l : List (List UInt8)} (h : l.Nodup) : (l.mergeSort fun x y => decide (x ≤ y)).Nodup := (List.mergeSort_perm l _).nodup_iff.2 h
set_option maxRecDepth 100000 in
set_option maxHeartbeats 4000000 in
theorem rsubjects_any (w : World) (vb rb hb sb n : Nat) (sec : ByteArray) (H : List (ByteArray × I64)) (B : List (ByteArray × Bool)) (h : rvaultAt w vb rb hb sb n sec H B) (hn : n ≤ 1000000) :
    Calls Tryz.prog 17 #[.pointer (some ⟨vb, 0, none⟩)] w fun e w' => ∃ (v : Value) (ss : List (List UInt8)), e = .returned v ∧ ss.Nodup ∧ (∀ k : ByteArray, txt k ∈ ss ↔ (findS k B).getD false = true) ∧
      w'.ownsRow w.heap.size 9 1 v ss.length ((ss.mergeSort (fun x y => decide (x ≤ y))).map Go.Proofs.encStr) ∧ Below w.heap.size w w' := by
  obtain ⟨c0, c1, c2, c3⟩ := h.cells
  have M := Lib.hid h.has
  have hvb := lt_of_heap h.blk
  have hbl := M.out.lt
  clear h
  go_enter Tryz.func17, Tryz.ntmps17
  go_wp2_with (first | (at_range; refine wpList_range_texts rfl _ rfl Tryz.underlying62 sb n B rfl M.out ?_; intro w1 left cnt0 RG HL g1 hs1) | go_in)
  go_frame
  have OS := Lib.hid M.out.once
  have LN := Lib.hid (Nat.le_trans M.out.len_le hn)
  have B1 := Lib.hid ((Below.refl w.heap.size w).grown g1 (Nat.le_refl _) (fun _ e => by cases e))
  clear c0 c1 c2 c3 M g1
  generalize hrb : w.heap.size = rw at *
  go_loopw [3] (fun lv wr => ∃ left cnt acc, Hid (rangeS (fun x : Bool => (.lit (.bool x) : DataW Unit)) (plainElem Tryz.prog 4) wr sb rw n B left cnt) ∧ Hid (ownsTx wr (rw + 1) lv acc) ∧ Hid (accT B left acc) ∧ Hid (Below rw w wr)) (fun _ wr => wr.rangeLeft sb rw)
  case atStart => exact ⟨left, cnt0, [], Lib.hid RG, Lib.hid (ownsTx_nil _ _), Lib.hid (accT.start HL), B1⟩
  case round =>
    clear RG HL left B1 w1 hs1 cnt0
    obtain ⟨left, cnt, acc, RG, OW, AO, BB⟩ := hrel
    go_wp2_with (first | (at_next; refine wpList_next_texts rfl _ rfl elemB sb rw n B left cnt rfl RG.out ?_ ?_) | go_in)
    · intro _ hl0
      have AL := Lib.hid (AO.out.all OS.out hl0)
      have AC := Lib.hid AO.out.once
      have LA := Lib.hid (Nat.le_trans AO.out.len LN.out)
      clear hl0 RG AO OS LN
      rcases OW.out.2 with ⟨hv, h0⟩ | ⟨g, cap, cur, hv, hg, hh, h1, h2, h3, h4⟩
      · obtain rfl : acc = [] := List.length_eq_zero_iff.1 h0
        subst hv
        clear OW
        go_wp2_with fail
        refine (Tryz.sort_Strings_none none 0 _).mono ?_
        rintro _ w3 ⟨rfl, rfl⟩
        go_wp2_with fail
        go_ret
        exact ⟨_, [], rfl, List.nodup_nil, AL.out, by rw [List.mergeSort_nil]; exact ownsTx_nil _ _, by rw [hrb]; exact BB.out⟩
      · subst hv
        have SC := Tryz.sort_Strings g 0 cap (acc.map txt) wr (_root_.Go.holds_of_block hh (by rw [List.length_map, ← Nat.mul_one acc.length, h4, enc_txt])) (lt_of_heap hh) (by have := LA.out; rw [List.length_map]; omega)
        rw [List.length_map] at SC
        have HH := Lib.hid hh
        clear OW hh h4
        go_wp2_with fail
        refine SC.mono ?_
        rintro _ w3 ⟨rfl, nd, os, rfl⟩
        have OW3 := Lib.hid (_root_.Go.ownsRow_sorted (n := nd) (os := os) (ss := acc.map txt) (ts := (acc.map txt).mergeSort fun x y => decide (x ≤ y)) (List.length_mergeSort _) hg HH.out (by rw [List.length_map]; exact h1) h2 h3)
        have B3 := Lib.hid (BB.out.grown (_root_.Go.grownBy_sorted (g := g) (n := nd) (os := os) ((acc.map txt).mergeSort fun x y => decide (x ≤ y)).toArray) (by rw [← hrb]; exact BB.out.size) (by rintro _ ⟨⟩; omega))
        clear SC HH BB
        generalize Go.Sort.grow _ _ = w3 at OW3 B3 ⊢
        go_wp2_with fail
        go_ret
        rw [List.length_map] at OW3
        exact ⟨_, acc.map txt, rfl, AC.out, AL.out, by rw [List.length_map, hrb]; exact low_row OW3.out (Nat.le_succ _), by rw [hrb]; exact B3.out⟩
    · intro c
      have CNT := Lib.hid (show wr.rangeLeft sb rw = cnt from RG.out.left_eq)
      have NB := Lib.hid (fun g (hg : u3.ownBlock = some g) => (OW.out.base hg).1)
      refine ⟨fun w8 cnt8 hc hlx RG8 hlt g8 hs8 hen => ?_, fun w8 cnt8 hc hlx RG8 hlt g8 hs8 hen => ?_⟩
      · have AO8 := Lib.hid (AO.out.skip OS.out hc rfl)
        have OW8 := Lib.hid (OW.out.kept g8 (fun g hg e => by injection e with e; have := (OW.out.base hg).1; omega))
        have B8 := Lib.hid (BB.out.grown g8 (by rw [← hrb]; exact BB.out.size) (by rintro _ ⟨⟩; exact Nat.le_refl _))
        have RG8 := Lib.hid RG8
        clear RG OW AO BB hlx hc g8 hs8
        go_wp2_with fail
        exact ⟨⟨_, cnt8, acc, RG8, OW8, AO8, B8⟩, by rw [RG8.out.left_eq, CNT.out]; exact hlt⟩
      · have AO8 := Lib.hid (AO.out.take OS.out hc rfl hlx)
        have OW8 := Lib.hid (OW.out.kept g8 (fun g hg e => by injection e with e; have := (OW.out.base hg).1; omega))
        have B8 := Lib.hid (BB.out.grown g8 (by rw [← hrb]; exact BB.out.size) (by rintro _ ⟨⟩; exact Nat.le_refl _))
        have hrl := RG8.lt
        have RG8 := Lib.hid RG8
        have hal : acc.length ≤ 1048576 := by have := AO.out.len; have := LN.out; omega
        have hb8 : rw + 1 ≤ w8.heap.size := by omega
        clear RG OW AO BB hlx hc g8 hs8
        go_wp2_with (at_builtin; go_must (refine append_tx (rw + 1) u3 acc c (.tmp 17) (.tmp 19) _ rfl rfl rfl (by rfl) OW8.out hal hb8 ?_); intro v' w' OWn g')
        have RGn := RG8.out.kept g' (fun e => by have := NB.out sb e.symm; omega) (fun e => by have := NB.out rw e.symm; omega)
        exact ⟨⟨_, cnt8, acc ++ [c], Lib.hid RGn, Lib.hid OWn, AO8, Lib.hid (B8.out.grown g' (by omega) (fun j hj => by have := NB.out j hj; omega))⟩, by rw [RGn.left_eq, CNT.out]; exact hlt⟩
end Go.Proofs.YtnmpchojhbmbmaaGreatDoor
