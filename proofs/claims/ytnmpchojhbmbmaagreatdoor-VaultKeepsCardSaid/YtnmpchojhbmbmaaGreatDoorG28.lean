/- (*vault.Vault).Subjects: the keys of a map (the walk, by the kit's contracts of slices.Sorted and maps.Keys). -/
import Derived.Test.YtnmpchojhbmbmaaGreatDoorProg
import Derived.Test.YtnmpchojhbmbmaaGreatDoorG3
import Derived.Test.YtnmpchojhbmbmaaGreatDoorShelfZ
import Derived.Shelf.SlIter.Nil
import Derived.Shelf.SortM.Plain
import Derived.Shelf.SortM.SortNone
namespace Go.Proofs.YtnmpchojhbmbmaaGreatDoor
open Go.RowKit Go.Maps Go.Sort Go.Shelf

theorem sortsM (m : Nat) : AnyZ.SortsIn Tryz.prog Tryz.sortedM_ren Fence.wide m :=
  ⟨fun blk off cap ss W hH hblk hsz => callsIn_wide.2 (AnyM.slices_Sort_string Tryz.sortM blk off cap ss W hH hblk hsz),
   fun p cap W => callsIn_wide.2 (AnyM.slices_Sort_string_none Tryz.sortM p cap W)⟩
set_option maxRecDepth 100000 in
set_option maxHeartbeats 2000000 in
theorem subjects_raw (w : World) (vb mb tb n : Nat) (sec : ByteArray) (M : List (ByteArray × I64)) (T : List (ByteArray × Txt)) (h : vaultAt w vb mb tb n sec M T) (hn : n ≤ 1048576) :
    Calls Tryz.prog 16 #[.pointer (some ⟨vb, 0, none⟩)] w fun e w' => ∃ (v : Value) (ss : List (List UInt8)), e = .returned v ∧ ss.Perm (T.map fun p => txt p.1) ∧ ss.length ≤ n ∧
      w'.ownsRow w.heap.size 9 1 v ss.length ((ss.mergeSort (fun x y => decide (x ≤ y))).map encStr) ∧ Below w.heap.size w w' := by
  refine (callsIn_wide (n := 6)).1 ?_
  obtain ⟨es, hown, hper⟩ := h.there.own
  have hlen : es.length ≤ n := by rw [hper.length_eq, List.length_map]; exact h.there.len_le
  have hkey : (strKeys (H := Unit) (.map es)).Perm (T.map fun p => txt p.1) := by
    have h1 := hper.map (fun p : Lit × DataW Unit => strOf p.1)
    rw [List.map_map] at h1
    exact h1
  have hmax : Maps.size (H := Unit) (.map es) ≤ maxLen := by unfold maxLen; show es.length ≤ _; omega
  have hbytes : Maps.size (H := Unit) (.map es) * 16 ≤ 140737488355328 := by show es.length * 16 ≤ _; omega
  have hbl := hown.lt
  have hseq : SeqGives Fence.wide 2 Tryz.prog 41 #[.pointer (some ⟨w.heap.size, 0, none⟩)] encStr (fun ss => ss.Perm (strKeys (H := Unit) (.map es))) (Maps.size (H := Unit) (.map es)) (w.alloc (.cells #[.map (some tb)] 65)) :=
    AnyZ.keys_gives (ρ := Tryz.keysM_ren) { Tryz.keysM with } Fence.wide _ trivial rfl (by omega) w.heap.size tb n (.map es) _ (by simp) (by simp) (by
      obtain ⟨es', clock, hb, Ft, hs, hD⟩ := hown
      exact ⟨es', clock, (Below.heap_alloc _ _ tb hbl).trans hb, Ft, hs, hD⟩)
  have cK : ∀ mb W, CallsIn Fence.wide 5 Tryz.prog 29 #[.map mb] W fun e w' => e = .returned (.func (.func 41) #[] #[.pointer (some ⟨W.heap.size, 0, none⟩)]) ∧ w' = W.alloc (.cells #[.map mb] 65) := fun mb W => AnyZ.keys_in Tryz.keysM Fence.wide 5 trivial rfl mb W
  have cS := AnyZ.sorted_in Tryz.sortedM Fence.wide 5 trivial trivial trivial trivial rfl (by omega) (sortsM _) (enters_of Tryz.func40 (by kernel_rfl) rfl) 41 #[.pointer (some ⟨w.heap.size, 0, none⟩)] trivial (enters_of Tryz.func41 (by kernel_rfl) rfl) _ _ hmax hbytes _ hseq
  change CallsIn _ _ Tryz.prog 28 _ _ _ at cS
  have hfK : Fence.wide.fn 29 := trivial
  have hfS : Fence.wide.fn 28 := trivial
  have hblk := h.blk
  have c2 : w.cell? ⟨vb, 2, none⟩ = some (.map (some tb)) := by rw [cell_in, hblk]; rfl
  have lt := lt_of_heap hblk
  have HK := Lib.hid hkey
  have HTL := Lib.hid h.there.len_le
  clear hown hper hlen hkey hmax hbytes hbl hseq hblk h
  refine callsIn_of_wp Tryz.func16 rfl trivial ?_ rfl
  simp only [Tryz.ntmps16, List.size_toArray, List.length_cons, List.length_nil, Nat.reduceAdd, Nat.reduceSub, Array.replicate_succ, Array.replicate_zero, List.push_toArray, List.append_toArray, List.nil_append, List.cons_append]
  gi_wp2_with (first
    | (gi_at_call 29; refine (cK _ _).mono ?_; rintro e w' ⟨rfl, rfl⟩)
    | (gi_at_call 28; refine cS.mono ?_; rintro e w' ⟨v, ss, rfl, hS, hrow, hnil, hb⟩))
  go_ret
  exact ⟨v, ss, rfl, hS.trans HK.out, by rw [(hS.trans HK.out).length_eq, List.length_map]; exact HTL.out, ownsRow_base_a hrow (by simp), ((Below.refl _ w).alloc (Nat.le_refl _) _).trans (hb.mono (by simp))⟩
end Go.Proofs.YtnmpchojhbmbmaaGreatDoor
