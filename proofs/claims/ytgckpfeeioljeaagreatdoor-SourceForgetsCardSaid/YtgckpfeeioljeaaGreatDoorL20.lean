/- (*vault.Vault).Subjects: all that have a key (the walk, by the kit's contracts of slices.Sorted and maps.Keys). -/
import Derived.Test.YtgckpfeeioljeaaGreatDoorProg
import Derived.Test.YtgckpfeeioljeaaGreatDoorG19
import Derived.Test.YtgckpfeeioljeaaGreatDoorShelfZ
import Derived.Shelf.SlIter.Nil
import Derived.Shelf.SortM.Plain
import Derived.Shelf.SortM.SortNone
namespace Go.Proofs.YtgckpfeeioljeaaGreatDoor
open Go.RowKit Go.Maps Go.Sort Go.Shelf

theorem sortsM (m : Nat) : AnyZ.SortsIn Tryz.prog Tryz.sortedM_ren Fence.wide m :=
  ⟨fun blk off cap ss W hH hblk hsz => callsIn_wide.2 (AnyM.slices_Sort_string Tryz.sortM blk off cap ss W hH hblk hsz),
   fun p cap W => callsIn_wide.2 (AnyM.slices_Sort_string_none Tryz.sortM p cap W)⟩
set_option maxRecDepth 100000 in
set_option maxHeartbeats 2000000 in
theorem subjects_raw (w : World) (vb mb tb n : Nat) (sec : ByteArray) (M : List (ByteArray × I64)) (T : List (ByteArray × Txt)) (h : vaultAt w vb mb tb n sec M T) (hn : n ≤ 1048576) :
    Calls Tryz.prog 36 #[.pointer (some ⟨vb, 0, none⟩)] w fun e w' => ∃ (v : Value) (ss : List (List UInt8)), e = .returned v ∧ ss.Perm (T.map fun p => txt p.1) ∧ ss.length ≤ n ∧
      w'.ownsRow w.heap.size 9 1 v ss.length ((ss.mergeSort (fun x y => decide (x ≤ y))).map encStr) ∧ Below w.heap.size w w' := by
  refine (callsIn_wide (n := 6)).1 ?_
  obtain ⟨es, hown, hper⟩ := h.there.own
  have hlen : es.length ≤ n := by rw [hper.length_eq, List.length_map]; exact h.there.len_le
  have hkey : (strKeys (H := Unit) (.map es)).Perm (T.map fun p => txt p.1) := by
    have h1 := hper.map (fun p : Lit × DataW Unit => strOf p.1)
    rw [List.map_map] at h1
    exact h1
  have hmax : Maps.size (H := Unit) (.map es) ≤ maxLen := by unfold maxLen; show es.length ≤ _; omega
  have hbytes : Maps.size (H := Unit) (.map es) * 16 ≤ 140737488355328 := by show es.length * 16 ≤ _; omega
  have hbl := hown.lt
  have hseq : SeqGives Fence.wide 2 Tryz.prog 91 #[.pointer (some ⟨w.heap.size, 0, none⟩)] encStr (fun ss => ss.Perm (strKeys (H := Unit) (.map es))) (Maps.size (H := Unit) (.map es)) (w.alloc (.cells #[.map (some tb)] 114)) :=
    AnyZ.keys_gives (ρ := Tryz.keysM_ren) { Tryz.keysM with } Fence.wide _ trivial rfl (by omega) w.heap.size tb n (.map es) _ (by simp) (by simp) (by
      obtain ⟨es', clock, hb, Ft, hs, hD⟩ := hown
      exact ⟨es', clock, (Below.heap_alloc _ _ tb hbl).trans hb, Ft, hs, hD⟩)
  have cK : ∀ mb W, CallsIn Fence.wide 5 Tryz.prog 67 #[.map mb] W fun e w' => e = .returned (.func (.func 91) #[] #[.pointer (some ⟨W.heap.size, 0, none⟩)]) ∧ w' = W.alloc (.cells #[.map mb] 114) := fun mb W => AnyZ.keys_in Tryz.keysM Fence.wide 5 trivial rfl mb W
  have cS := AnyZ.sorted_in Tryz.sortedM Fence.wide 5 trivial trivial trivial trivial rfl (by omega) (sortsM _) (enters_of Tryz.func90 (by kernel_rfl) rfl) 91 #[.pointer (some ⟨w.heap.size, 0, none⟩)] trivial (enters_of Tryz.func91 (by kernel_rfl) rfl) _ _ hmax hbytes _ hseq
  change CallsIn _ _ Tryz.prog 66 _ _ _ at cS
  have hfK : Fence.wide.fn 67 := trivial
  have hfS : Fence.wide.fn 66 := trivial
  have hblk := h.blk
  have c2 : w.cell? ⟨vb, 2, none⟩ = some (.map (some tb)) := by rw [cell_in, hblk]; rfl
  have lt := lt_of_heap hblk
  have HK := Lib.hid hkey
  have HTL := Lib.hid h.there.len_le
  clear hown hper hlen hkey hmax hbytes hbl hseq hblk h
  refine callsIn_of_wp Tryz.func36 rfl trivial ?_ rfl
  simp only [Tryz.ntmps36, List.size_toArray, List.length_cons, List.length_nil, Nat.reduceAdd, Nat.reduceSub, Array.replicate_succ, Array.replicate_zero, List.push_toArray, List.append_toArray, List.nil_append, List.cons_append]
  gi_wp2_with (first
    | (gi_at_call 67; refine (cK _ _).mono ?_; rintro e w' ⟨rfl, rfl⟩)
    | (gi_at_call 66; refine cS.mono ?_; rintro e w' ⟨v, ss, rfl, hS, hrow, hnil, hb⟩))
  go_ret
  exact ⟨v, ss, rfl, hS.trans HK.out, by rw [(hS.trans HK.out).length_eq, List.length_map]; exact HTL.out, ownsRow_base_a hrow (by simp), ((Below.refl _ w).alloc (Nat.le_refl _) _).trans (hb.mono (by simp))⟩
theorem subjects_any (w : World) (V : Blk) (vb n : Nat) (sec : ByteArray) (many : ByteArray → Nat) (has : ByteArray → Bool) (h : vaultIn w V vb n sec many has) (hn : n ≤ 1048576) :
    Calls Tryz.prog 36 #[.pointer (some ⟨vb, 0, none⟩)] w fun e w' => ∃ (v : Value) (ss : List (List UInt8)), e = .returned v ∧ (∀ s : ByteArray, txt s ∈ ss ↔ has s = true) ∧ ss.length ≤ n ∧
      w'.ownsRow w.heap.size 9 1 v ss.length ((ss.mergeSort (fun x y => decide (x ≤ y))).map encStr) ∧ Below w.heap.size w w' := by
  obtain ⟨mb, tb, M, T, h1, h2, h3, h4, h5⟩ := h
  refine (subjects_raw w vb mb tb n sec M T h1 hn).mono ?_
  rintro e w' ⟨v, ss, rfl, hS, hlen, hrow, hb⟩
  refine ⟨v, ss, rfl, fun s => ?_, hlen, hrow, hb⟩
  rw [hS.mem_iff, List.mem_map]
  constructor
  · rintro ⟨p, hp, hk⟩
    have h6 := findS_some h1.there.once hp
    have h7 := h5 p.1
    rw [h6] at h7
    rw [← txt_inj hk]
    cases hh : has p.1 with
    | true => rfl
    | false => rw [hh, if_neg (by simp)] at h7; cases h7
  · intro hh
    have h7 := h5 s
    rw [hh, if_pos rfl] at h7
    obtain ⟨x, hx, _⟩ := Option.map_eq_some_iff.1 h7
    obtain ⟨p, hp, hk, _⟩ := findS_mem hx
    exact ⟨p, hp, hk⟩
end Go.Proofs.YtgckpfeeioljeaaGreatDoor
