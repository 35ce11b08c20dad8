/- The document's vault (the walks): New, Make, Key, Forget. -/
import Derived.Test.YtnmpchojhbmbmaaGreatDoorProg
import Derived.Test.YtnmpchojhbmbmaaGreatDoorG2
import Derived.Test.YtnmpchojhbmbmaaGreatDoorG9
import Derived.Test.YtnmpchojhbmbmaaGreatDoorG11
import Derived.Test.YtnmpchojhbmbmaaGreatDoorG15
import Derived.Test.YtnmpchojhbmbmaaGreatDoorG19
import Derived.Test.YtnmpchojhbmbmaaGreatDoorG20
namespace Go.Proofs.YtnmpchojhbmbmaaGreatDoor
open Go.RowKit Go.Shelf

abbrev mapB (w : World) (b n : Nat) (M : List (ByteArray × Bool)) : Prop := mapS (fun x : Bool => (.lit (.bool x) : DataW Unit)) (plainElem Tryz.prog 4) w b n M
/-- The document's vault. -/
structure rvaultAt (w : World) (vb rb hb sb n : Nat) (sec : ByteArray) (H : List (ByteArray × I64)) (B : List (ByteArray × Bool)) : Prop where
  blk : w.heap[vb]? = some (.cells #[.pointer (some ⟨rb, 0, none⟩), .string sec, .map (some hb), .map (some sb)] 64 (0, 0))
  had : mapI w hb n H
  has : mapB w sb n B
  r_ : isR w rb
  ne1 : hb ≠ sb
  ne2 : hb ≠ vb
  ne3 : sb ≠ vb
  ne4 : rb ≠ vb
theorem rvaultAt.cells {w : World} {vb rb hb sb n : Nat} {sec : ByteArray} {H : List (ByteArray × I64)} {B : List (ByteArray × Bool)} (h : rvaultAt w vb rb hb sb n sec H B) :
    w.cell? ⟨vb, 0, none⟩ = some (.pointer (some ⟨rb, 0, none⟩)) ∧ w.cell? ⟨vb, 1, none⟩ = some (.string sec) ∧ w.cell? ⟨vb, 2, none⟩ = some (.map (some hb)) ∧ w.cell? ⟨vb, 3, none⟩ = some (.map (some sb)) := by
  refine ⟨?_, ?_, ?_, ?_⟩ <;> (rw [cell_in, h.blk]; rfl)
set_option maxRecDepth 100000 in
set_option maxHeartbeats 4000000 in
theorem rvnew_bad (rb : Nat) (sec : ByteArray) (w : World) (h : sec.size ≠ 16) : Calls Tryz.prog 6 #[.pointer (some ⟨rb, 0, none⟩), .string sec] w fun r w' => r = .returned (.tuple #[.pointer none, .int .i64 1]) ∧ w = w' := by
  have hb : ((sec.size : Int) != 16) = true := by simp; omega
  clear h
  go_enter Tryz.func6, Tryz.ntmps6
  go_wp2_with fail
  go_ret2
  exact ⟨rfl, rfl⟩
set_option maxRecDepth 100000 in
set_option maxHeartbeats 4000000 in
theorem rvnew_any (rb : Nat) (sec : ByteArray) (w : World) (h : sec.size = 16) (hR : isR w rb) : Calls Tryz.prog 6 #[.pointer (some ⟨rb, 0, none⟩), .string sec] w fun r w' => ∃ vb hb sb, r = .returned (.tuple #[.pointer (some ⟨vb, 0, none⟩), .int .i64 0]) ∧ rvaultAt w' vb rb hb sb 0 sec [] [] ∧ (w.heap.size ≤ vb ∧ w.heap.size ≤ hb ∧ w.heap.size ≤ sb) ∧ ∃ x, w' = ext w x := by
  have hb : ((sec.size : Int) != 16) = false := by rw [h]; rfl
  have hmm := @run_makeMap Tryz.prog
  clear h
  go_enter Tryz.func6, Tryz.ntmps6
  go_wp2_with fail
  go_ret2
  have e1 : (w.alloc (.map #[] 0)).heap.size = w.heap.size + 1 := by simp
  have e2 : ((w.alloc (.map #[] 0)).alloc (.map #[] 0)).heap.size = w.heap.size + 1 + 1 := by simp
  have A := heap_alloc_at ((w.alloc (.map #[] 0)).alloc (.map #[] 0)) (.cells #[.pointer (some ⟨rb, 0, none⟩), .string sec, .map (some w.heap.size), .map (some (w.heap.size + 1))] 64)
  rw [e2] at A
  have X := ext_alloc (.cells #[.pointer (some ⟨rb, 0, none⟩), .string sec, .map (some w.heap.size), .map (some (w.heap.size + 1))] 64) (ext_alloc (.map #[] 0) (ext_alloc (.map #[] 0) (ext_refl w)))
  have B1 : mapI _ w.heap.size 0 [] := ((mapS.made w).kept (World.grownBy_alloc (w.alloc (.map #[] 0)) (.map #[] 0) none) (by simp)).kept (World.grownBy_alloc _ (.cells #[.pointer (some ⟨rb, 0, none⟩), .string sec, .map (some w.heap.size), .map (some (w.heap.size + 1))] 64) none) (by simp)
  have B2 : mapB _ _ 0 [] := (mapS.made (w.alloc (.map #[] 0))).kept (World.grownBy_alloc _ (.cells #[.pointer (some ⟨rb, 0, none⟩), .string sec, .map (some w.heap.size), .map (some (w.heap.size + 1))] 64) none) (by simp)
  rw [e1] at B2
  have hr := lt_of_heap hR
  exact ⟨_, _, _, rfl, ⟨A, B1, B2, ((ext_iff.1 X).block _ hr).trans hR, by omega, by omega, by omega, by omega⟩, by omega, X⟩
set_option maxRecDepth 100000 in
set_option maxHeartbeats 4000000 in
theorem rvforget_any (s : ByteArray) (w : World) (vb rb hb sb n : Nat) (sec : ByteArray) (H : List (ByteArray × I64)) (B : List (ByteArray × Bool)) (h : rvaultAt w vb rb hb sb n sec H B) (hs : s.size ≤ maxLen) (hn : n < maxLen) (hrs : rb ≠ sb) :
    Calls Tryz.prog 12 #[.pointer (some ⟨vb, 0, none⟩), .string s] w fun r w' => r = .returned (.int .i64 (if (findS s B).getD false = true then 0 else 8)) ∧ rvaultAt w' vb rb hb sb (n + 1) sec H (if (findS s B).getD false = true then putS s false B else B) ∧ w.grownBy w' (some sb) := by
  obtain ⟨c0, c1, c2, c3⟩ := h.cells
  have l2 := h.has.look elemB Tryz.underlying62 hs
  obtain ⟨wd, hput, hm, hg⟩ := h.has.put elemB Tryz.underlying62 false hs hn
  have HV : Hid (rvaultAt w vb rb hb sb (n + 1) sec H B) := Lib.hid ⟨h.blk, h.had.mono (Nat.le_succ n), h.has.mono (Nat.le_succ n), h.r_, h.ne1, h.ne2, h.ne3, h.ne4⟩
  have hvb := lt_of_heap h.blk
  have HD : Hid (rvaultAt wd vb rb hb sb (n + 1) sec H (putS s false B)) := Lib.hid ⟨(hg.block vb hvb (fun e => h.ne3 (by injection e with e; exact e.symm))).trans h.blk, (h.had.kept hg (fun e => h.ne1 (by injection e))).mono (Nat.le_succ n), hm, (hg.block rb (lt_of_heap h.r_) (fun e => hrs (by injection e))).trans h.r_, h.ne1, h.ne2, h.ne3, h.ne4⟩
  have HG := Lib.hid hg
  clear h hm hg
  generalize (findS s B).getD false = f at l2 ⊢
  cases f with
  | false =>
    clear hput HD
    go_enter Tryz.func12, Tryz.ntmps12
    go_wp2_with fail
    go_ret
    exact ⟨rfl, HV.out, grown_refl _ _⟩
  | true =>
    go_enter Tryz.func12, Tryz.ntmps12
    go_wp2_with fail
    go_ret
    exact ⟨rfl, HD.out, HG.out⟩
end Go.Proofs.YtnmpchojhbmbmaaGreatDoor
