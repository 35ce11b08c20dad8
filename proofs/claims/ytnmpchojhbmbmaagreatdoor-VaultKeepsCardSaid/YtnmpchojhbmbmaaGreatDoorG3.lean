/- The vault: Key, Forget, New (the walks). -/
import Derived.Test.YtnmpchojhbmbmaaGreatDoorProg
import Derived.Test.YtnmpchojhbmbmaaGreatDoorG2
import Derived.Test.YtnmpchojhbmbmaaGreatDoorWords
namespace Go.Proofs.YtnmpchojhbmbmaaGreatDoor
open Go.RowKit

abbrev mapI (w : World) (b n : Nat) (M : List (ByteArray × I64)) : Prop := mapS (fun x : I64 => (.lit (.int .i64 x.1) : DataW Unit)) (plainElem Tryz.prog 3) w b n M
abbrev mapT (w : World) (b n : Nat) (M : List (ByteArray × Txt)) : Prop := mapS (fun x : Txt => (.lit (.string x.1.data.toList) : DataW Unit)) (plainElem Tryz.prog 9) w b n M
/-- A vault: its secret, how many keys each subject had, those that are there. -/
structure vaultAt (w : World) (vb mb tb n : Nat) (sec : ByteArray) (M : List (ByteArray × I64)) (T : List (ByteArray × Txt)) : Prop where
  blk : w.heap[vb]? = some (.cells #[.string sec, .map (some mb), .map (some tb)] 67 (0, 0))
  many : mapI w mb n M
  there : mapT w tb n T
  ne1 : mb ≠ tb
  ne2 : mb ≠ vb
  ne3 : tb ≠ vb
theorem vaultAt.kept {w w' : World} {vb mb tb n : Nat} {sec : ByteArray} {M : List (ByteArray × I64)} {T : List (ByteArray × Txt)} {row : Option Nat} (h : vaultAt w vb mb tb n sec M T) (g : w.grownBy w' row) (h1 : some vb ≠ row) (h2 : some mb ≠ row) (h3 : some tb ≠ row) : vaultAt w' vb mb tb n sec M T :=
  ⟨(g.block vb (lt_of_heap h.blk) h1).trans h.blk, h.many.kept g h2, h.there.kept g h3, h.ne1, h.ne2, h.ne3⟩
theorem vaultAt.ext {w w' : World} {vb mb tb n : Nat} {sec : ByteArray} {M : List (ByteArray × I64)} {T : List (ByteArray × Txt)} (h : vaultAt w vb mb tb n sec M T) (hx : ∃ x, w' = ext w x) : vaultAt w' vb mb tb n sec M T :=
  h.kept (grown_below (ext_iff.1 hx) none) (by simp) (by simp) (by simp)
theorem vaultAt.cells {w : World} {vb mb tb n : Nat} {sec : ByteArray} {M : List (ByteArray × I64)} {T : List (ByteArray × Txt)} (h : vaultAt w vb mb tb n sec M T) :
    w.cell? ⟨vb, 0, none⟩ = some (.string sec) ∧ w.cell? ⟨vb, 1, none⟩ = some (.map (some mb)) ∧ w.cell? ⟨vb, 2, none⟩ = some (.map (some tb)) := by
  refine ⟨?_, ?_, ?_⟩ <;> (rw [cell_in, h.blk]; rfl)
/-- What Key hands back. -/
def keyV (f : Option Txt) (m g : Int) : Value :=
  if (decide (g < 1) || decide (m < g)) = true then .tuple #[.string ⟨#[]⟩, errV 7]
  else if (decide (g < m) || !f.isSome) = true then .tuple #[.string ⟨#[]⟩, errV 8]
  else .tuple #[.string (f.getD ⟨⟨#[]⟩, by decide⟩).1, .nilIface]
set_option maxRecDepth 100000 in
set_option maxHeartbeats 4000000 in
theorem vkey_any (s : ByteArray) (g : Int) (w : World) (vb mb tb n : Nat) (sec : ByteArray) (M : List (ByteArray × I64)) (T : List (ByteArray × Txt)) (h : vaultAt w vb mb tb n sec M T) (hs : s.size ≤ maxLen) :
    Calls Tryz.prog 14 #[.pointer (some ⟨vb, 0, none⟩), .string s, .int .i64 g] w fun r w' => r = .returned (keyV (findS s T) ((findS s M).getD ⟨0, by decide⟩).1 g) ∧ w = w' := by
  obtain ⟨c0, c1, c2⟩ := h.cells
  have l1 := h.many.look elemI Tryz.underlying61 hs
  have l2 := h.there.look_ok elemT Tryz.underlying65 hs
  have hvb := lt_of_heap h.blk
  clear h
  generalize (findS s M).getD ⟨0, by decide⟩ = m at l1 ⊢
  obtain ⟨m, hm⟩ := m
  dsimp only at l1 ⊢
  generalize findS s T = f at l2 ⊢
  have hV : Hid (keyV f m g = keyV f m g) := Lib.hid rfl
  generalize hk : keyV f m g = V
  have HK := Lib.hid hk
  clear hk hV
  unfold keyV at HK
  cases f with
  | none =>
    dsimp only [Option.getD, Option.isSome] at l2 HK
    by_cases h1 : g < 1
    · have hv := HK.out.symm.trans (if_pos (by simp [h1]))
      clear HK
      have hv := Lib.hid hv
      go_enter Tryz.func14, Tryz.ntmps14
      go_wp2_with fail
      go_ret2
      exact ⟨by rw [hv.out]; rfl, rfl⟩
    · by_cases h2 : m < g
      · have hv := Lib.hid (HK.out.symm.trans (if_pos (by simp [h2])))
        clear HK
        go_enter Tryz.func14, Tryz.ntmps14
        go_wp2_with fail
        go_ret2
        exact ⟨by rw [hv.out]; rfl, rfl⟩
      · have hv := Lib.hid ((HK.out.symm.trans (if_neg (by simp; omega))).trans (if_pos (by simp)))
        clear HK
        by_cases h3 : g < m
        all_goals
          go_enter Tryz.func14, Tryz.ntmps14
          go_wp2_with fail
          go_ret2
          exact ⟨by rw [hv.out]; rfl, rfl⟩
  | some k =>
    dsimp only [Option.getD, Option.isSome] at l2 HK
    by_cases h1 : g < 1
    · have hv := Lib.hid (HK.out.symm.trans (if_pos (by simp [h1])))
      clear HK
      go_enter Tryz.func14, Tryz.ntmps14
      go_wp2_with fail
      go_ret2
      exact ⟨by rw [hv.out]; rfl, rfl⟩
    · by_cases h2 : m < g
      · have hv := Lib.hid (HK.out.symm.trans (if_pos (by simp [h2])))
        clear HK
        go_enter Tryz.func14, Tryz.ntmps14
        go_wp2_with fail
        go_ret2
        exact ⟨by rw [hv.out]; rfl, rfl⟩
      · by_cases h3 : g < m
        · have hv := Lib.hid ((HK.out.symm.trans (if_neg (by simp; omega))).trans (if_pos (by simp [h3])))
          clear HK
          go_enter Tryz.func14, Tryz.ntmps14
          go_wp2_with fail
          go_ret2
          exact ⟨by rw [hv.out]; rfl, rfl⟩
        · have hv := Lib.hid ((HK.out.symm.trans (if_neg (by simp; omega))).trans (if_neg (by simp; omega)))
          clear HK
          go_enter Tryz.func14, Tryz.ntmps14
          go_wp2_with fail
          go_ret2
          exact ⟨by rw [hv.out]; rfl, rfl⟩
set_option maxRecDepth 100000 in
set_option maxHeartbeats 4000000 in
theorem vforget_any (s : ByteArray) (w : World) (vb mb tb n : Nat) (sec : ByteArray) (M : List (ByteArray × I64)) (T : List (ByteArray × Txt)) (h : vaultAt w vb mb tb n sec M T) (hs : s.size ≤ maxLen) :
    Calls Tryz.prog 11 #[.pointer (some ⟨vb, 0, none⟩), .string s] w fun r w' => r = .returned (if (findS s T).isSome = true then .nilIface else errV 8) ∧ vaultAt w' vb mb tb n sec M (if (findS s T).isSome = true then delS s T else T) ∧ w.grownBy w' (some tb) := by
  obtain ⟨c0, c1, c2⟩ := h.cells
  have l2 := h.there.look_ok elemT Tryz.underlying65 hs
  obtain ⟨wd, hdel, hm, hg⟩ := h.there.del Tryz.underlying65 hs 0
  have HV := Lib.hid h
  have hvb := lt_of_heap h.blk
  have HD : Hid (vaultAt wd vb mb tb n sec M (delS s T)) := Lib.hid ⟨(hg.block vb hvb (fun e => h.ne3 (by injection e with e; exact e.symm))).trans h.blk, h.many.kept hg (fun e => h.ne1 (by injection e)), hm, h.ne1, h.ne2, h.ne3⟩
  have HG := Lib.hid hg
  clear h hm hg
  generalize (findS s T).getD ⟨⟨#[]⟩, by decide⟩ = k at l2
  obtain ⟨k, hk⟩ := k
  dsimp only at l2
  cases hf : (findS s T).isSome with
  | false =>
    rw [hf] at l2
    clear hf hdel HD
    go_enter Tryz.func11, Tryz.ntmps11
    go_wp2_with fail
    go_ret
    exact ⟨rfl, HV.out, grown_refl _ _⟩
  | true =>
    rw [hf] at l2
    clear hf
    go_enter Tryz.func11, Tryz.ntmps11
    go_wp2_with fail
    go_ret
    exact ⟨rfl, HD.out, HG.out⟩
set_option maxRecDepth 100000 in
set_option maxHeartbeats 4000000 in
theorem vnew_bad (sec : ByteArray) (w : World) (h : sec.size ≠ 16) : Calls Tryz.prog 7 #[.string sec] w fun r w' => r = .returned (.tuple #[.pointer none, errV 1]) ∧ w = w' := by
  have hb : ((sec.size : Int) != 16) = true := by simp; omega
  have hn : ¬ ((sec.size : Int) = 16) := by omega
  go_enter Tryz.func7, Tryz.ntmps7
  go_wp2_with fail
  go_ret2
  exact ⟨rfl, rfl⟩
set_option maxRecDepth 100000 in
set_option maxHeartbeats 4000000 in
theorem vnew_any (sec : ByteArray) (w : World) (h : sec.size = 16) : Calls Tryz.prog 7 #[.string sec] w fun r w' => ∃ vb mb tb, r = .returned (.tuple #[.pointer (some ⟨vb, 0, none⟩), .nilIface]) ∧ vaultAt w' vb mb tb 0 sec [] [] ∧ (w.heap.size ≤ vb ∧ w.heap.size ≤ mb ∧ w.heap.size ≤ tb) ∧ ∃ x, w' = Go.Proofs.YtnmpchojhbmbmaaGreatDoor.ext w x := by
  have hb : ((sec.size : Int) != 16) = false := by rw [h]; rfl
  have hmm := @run_makeMap Tryz.prog
  clear h
  go_enter Tryz.func7, Tryz.ntmps7
  go_wp2_with fail
  go_ret2
  have e1 : (w.alloc (.map #[] 0)).heap.size = w.heap.size + 1 := by simp
  have e2 : ((w.alloc (.map #[] 0)).alloc (.map #[] 0)).heap.size = w.heap.size + 1 + 1 := by simp
  have A := heap_alloc_at ((w.alloc (.map #[] 0)).alloc (.map #[] 0)) (.cells #[.string sec, .map (some w.heap.size), .map (some (w.heap.size + 1))] 67)
  rw [e2] at A
  have B1 : mapI _ w.heap.size 0 [] := ((mapS.made w).kept (World.grownBy_alloc (w.alloc (.map #[] 0)) (.map #[] 0) none) (by simp)).kept (World.grownBy_alloc _ (.cells #[.string sec, .map (some w.heap.size), .map (some (w.heap.size + 1))] 67) none) (by simp)
  have B2 : mapT _ _ 0 [] := (mapS.made (w.alloc (.map #[] 0))).kept (World.grownBy_alloc _ (.cells #[.string sec, .map (some w.heap.size), .map (some (w.heap.size + 1))] 67) none) (by simp)
  rw [e1] at B2
  exact ⟨_, _, _, rfl, ⟨A, B1, B2, by omega, by omega, by omega⟩, by omega, ext_alloc _ (ext_alloc _ (ext_alloc _ (ext_refl w)))⟩
end Go.Proofs.YtnmpchojhbmbmaaGreatDoor
