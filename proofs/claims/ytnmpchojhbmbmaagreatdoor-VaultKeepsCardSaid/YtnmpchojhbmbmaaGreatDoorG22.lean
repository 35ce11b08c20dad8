/- The document's vault: key (the walk, by slots), Make, Key. -/
import Derived.Test.YtnmpchojhbmbmaaGreatDoorProg
import Derived.Test.YtnmpchojhbmbmaaGreatDoorG21
namespace Go.Proofs.YtnmpchojhbmbmaaGreatDoor
open Go.RowKit Go.Shelf

def slT (v : Value) (w : World) (ps : List ByteArray) : Prop := ∃ b, v = .slice (some ⟨b, 0, none⟩) ps.length ps.length ∧ textsAt w (some ⟨b, 0, none⟩) ps
theorem slT.kept {v : Value} {w w' : World} {ps : List ByteArray} (h : slT v w ps) (hx : ∃ x, w' = ext w x) : slT v w' ps := by
  obtain ⟨b, rfl, ht⟩ := h
  have hx := ext_iff.1 hx
  exact ⟨b, rfl, textsAt_of ht hx.block hx.size⟩
def frRk (vb : Nat) (s : ByteArray) (m : Int) (g : Nat → Value) : Act := { tmps := #[.pointer (some ⟨vb, 0, none⟩), .string s, .int .i64 m, undef, undef, undef, g 6, g 7, g 8, g 9, g 10, g 11, g 12, g 13, g 14, g 15, g 16, g 17, g 18, g 19, g 20, g 21, g 22, g 23, g 24], defers := [] }
def dstRk (i : Nat) : Nat := ([7, 8, 9, 10, 11, 12, 13, 14, 15, 16, 17, 18, 19, 20, 21, 22, 23, 24, 6] : List Nat).getD i (2000 + i)
def laysRk (vb : Nat) (rb : Nat) (s : ByteArray) (m : Int) (sec : ByteArray) (nb : ByteArray) (kb : ByteArray) (ks : ByteArray) (j : Nat) (v : Value) (w : World) : Prop :=
  match j with
  | 0 => v = .pointer (some ⟨vb, 0, none⟩)
  | 1 => v = .pointer (some ⟨vb, 0, none⟩)
  | 2 => v = .pointer (some ⟨vb, 0, none⟩)
  | 3 => v = .pointer (some ⟨rb, 0, none⟩)
  | 4 => v = .pointer (some ⟨vb, 0, none⟩)
  | 5 => v = .pointer (some ⟨vb, 0, none⟩)
  | 6 => v = .pointer (some ⟨vb, 0, none⟩)
  | 7 => v = .pointer (some ⟨rb, 0, none⟩)
  | 8 => v = .pointer (some ⟨vb, 0, none⟩)
  | 9 => v = .pointer (some ⟨vb, 0, none⟩)
  | 10 => v = .pointer (some ⟨vb, 1, none⟩)
  | 11 => v = .string sec
  | 12 => v = .string s
  | 13 => v = .int .i64 m
  | 14 => v = .string nb
  | 15 => slT v w [sec, s, nb]
  | 16 => v = .string kb
  | 17 => v = .string ks
  | 18 => v = .string ks
  | _ => True
set_option maxRecDepth 100000 in
set_option maxHeartbeats 8000000 in
theorem rkey_any (s : ByteArray) (m : Int) (wz : World) (vb rb hb sb n : Nat) (sec : ByteArray) (H : List (ByteArray × I64)) (B : List (ByteArray × Bool)) (h : rvaultAt wz vb rb hb sb n sec H B) (hs : s.size ≤ 1048576) (hsec : sec.size ≤ 1048576) :
    Calls Tryz.prog 23 #[.pointer (some ⟨vb, 0, none⟩), .string s, .int .i64 m] wz fun r w' => r = .returned (.string ⟨(keyB sec s m).toArray⟩) ∧ ∃ x, w' = ext wz x := by
  have CC : Hid (∀ w1, (∃ x, w1 = ext wz x) → w1.cell? ⟨vb, 0, none⟩ = some (.pointer (some ⟨rb, 0, none⟩)) ∧ w1.cell? ⟨vb, 1, none⟩ = some (.string sec) ∧ vb < w1.heap.size) := Lib.hid fun w1 hx => by
    have hb := ((ext_iff.1 hx).block _ (lt_of_heap h.blk)).trans h.blk
    exact ⟨by rw [cell_in, hb]; rfl, by rw [cell_in, hb]; rfl, lt_of_heap hb⟩
  have RR := Lib.hid h.r_
  have HLEN : Hid ((markMsg 118 [sec, s, ⟨(numB m).toArray⟩]).length ≤ 140737488355000) := Lib.hid (by
    rw [msg3]
    have h8 : (⟨(numB m).toArray⟩ : ByteArray).size = 8 := by show (numB m).toArray.size = 8; rw [List.size_toArray]; exact numTo_length _ _
    rw [h8]; omega)
  have HK : Hid ((⟨(markB 118 [sec, s, ⟨(numB m).toArray⟩]).toArray⟩ : ByteArray).size ≤ 140737488355000) := Lib.hid (by show (markB 118 _).toArray.size ≤ _; rw [List.size_toArray]; unfold markB; rw [List.length_take]; omega)
  clear h hs hsec
  go_enter Tryz.func23, Tryz.ntmps23
  go_wp2_with fail
  refine wp_region_slots (frRk vb s m) dstRk (fun k => if k = 6 then .string ⟨#[]⟩ else undef) (laysRk vb rb s m sec ⟨(numB m).toArray⟩ ⟨(markB 118 [sec, s, ⟨(numB m).toArray⟩]).toArray⟩ ⟨(keyB sec s m).toArray⟩) (fun L g w => ∃ x, w = ext wz x) (fun w w' => ∃ x, w' = ext w x) (by kernel_rfl) (by kernel_rfl) rfl ?_ (by kernel_rfl) (ext_refl _) ?_ ?_
  · exact fun j v w w' h hr => by unfold laysRk at hr ⊢; split at hr <;> first | exact hr | exact slT.kept hr h
  · refine ⟨?_, ?_, ?_, ?_, ?_, ?_, ?_, ?_, ?_, ?_, ?_, ?_, ?_, ?_, ?_, ?_, ?_, ?_, ?_, trivial⟩
    all_goals (intro L gs w1 hLi hdeps hR hC; refine ends_of fun Q hQ => ?_)
    · have HQ := fun (a' : Act) (va : Value) (w' : World) (h1 : a' = frRk vb s m (upd1 gs 7 va)) h2 (h3 : laysRk vb rb s m sec ⟨(numB m).toArray⟩ ⟨(markB 118 [sec, s, ⟨(numB m).toArray⟩]).toArray⟩ ⟨(keyB sec s m).toArray⟩ 0 va w') h4 => hQ.out a' w' ⟨va, h1, h2, h3, h4⟩
      unfold frRk
      go_wp2_with fail
      exact HQ _ (.pointer (some ⟨vb, 0, none⟩)) _ (by simp only [frRk, upd1, Nat.reduceEqDiff, reduceIte]) (ext_refl _) rfl hC
    · have HQ := fun (a' : Act) (va : Value) (w' : World) (h1 : a' = frRk vb s m (upd1 gs 8 va)) h2 (h3 : laysRk vb rb s m sec ⟨(numB m).toArray⟩ ⟨(markB 118 [sec, s, ⟨(numB m).toArray⟩]).toArray⟩ ⟨(keyB sec s m).toArray⟩ 1 va w') h4 => hQ.out a' w' ⟨va, h1, h2, h3, h4⟩
      have r0 : gs 7 = .pointer (some ⟨vb, 0, none⟩) := hR 0 (hdeps ⟨0, .data⟩ (by simp) rfl)
      obtain ⟨c0, c1, lvb⟩ := CC.out w1 hC
      unfold frRk
      go_wp2_with fail
      exact HQ _ (.pointer (some ⟨vb, 0, none⟩)) _ (by simp only [frRk, upd1, r0, Nat.reduceEqDiff, reduceIte]) (ext_refl _) rfl hC
    · have HQ := fun (a' : Act) (va : Value) (w' : World) (h1 : a' = frRk vb s m (upd1 gs 9 va)) h2 (h3 : laysRk vb rb s m sec ⟨(numB m).toArray⟩ ⟨(markB 118 [sec, s, ⟨(numB m).toArray⟩]).toArray⟩ ⟨(keyB sec s m).toArray⟩ 2 va w') h4 => hQ.out a' w' ⟨va, h1, h2, h3, h4⟩
      have r1 : gs 8 = .pointer (some ⟨vb, 0, none⟩) := hR 1 (hdeps ⟨1, .data⟩ (by simp) rfl)
      unfold frRk
      go_wp2_with fail
      exact HQ _ (.pointer (some ⟨vb, 0, none⟩)) _ (by simp only [frRk, upd1, r1, Nat.reduceEqDiff, reduceIte]) (ext_refl _) rfl hC
    · have HQ := fun (a' : Act) (va : Value) (w' : World) (h1 : a' = frRk vb s m (upd1 gs 10 va)) h2 (h3 : laysRk vb rb s m sec ⟨(numB m).toArray⟩ ⟨(markB 118 [sec, s, ⟨(numB m).toArray⟩]).toArray⟩ ⟨(keyB sec s m).toArray⟩ 3 va w') h4 => hQ.out a' w' ⟨va, h1, h2, h3, h4⟩
      have r2 : gs 9 = .pointer (some ⟨vb, 0, none⟩) := hR 2 (hdeps ⟨2, .data⟩ (by simp) rfl)
      obtain ⟨c0, c1, lvb⟩ := CC.out w1 hC
      unfold frRk
      go_wp2_with fail
      exact HQ _ (.pointer (some ⟨rb, 0, none⟩)) _ (by simp only [frRk, upd1, r2, Nat.reduceEqDiff, reduceIte]) (ext_refl _) rfl hC
    · have HQ := fun (a' : Act) (va : Value) (w' : World) (h1 : a' = frRk vb s m (upd1 gs 11 va)) h2 (h3 : laysRk vb rb s m sec ⟨(numB m).toArray⟩ ⟨(markB 118 [sec, s, ⟨(numB m).toArray⟩]).toArray⟩ ⟨(keyB sec s m).toArray⟩ 4 va w') h4 => hQ.out a' w' ⟨va, h1, h2, h3, h4⟩
      unfold frRk
      go_wp2_with fail
      exact HQ _ (.pointer (some ⟨vb, 0, none⟩)) _ (by simp only [frRk, upd1, Nat.reduceEqDiff, reduceIte]) (ext_refl _) rfl hC
    · have HQ := fun (a' : Act) (va : Value) (w' : World) (h1 : a' = frRk vb s m (upd1 gs 12 va)) h2 (h3 : laysRk vb rb s m sec ⟨(numB m).toArray⟩ ⟨(markB 118 [sec, s, ⟨(numB m).toArray⟩]).toArray⟩ ⟨(keyB sec s m).toArray⟩ 5 va w') h4 => hQ.out a' w' ⟨va, h1, h2, h3, h4⟩
      have r4 : gs 11 = .pointer (some ⟨vb, 0, none⟩) := hR 4 (hdeps ⟨4, .data⟩ (by simp) rfl)
      obtain ⟨c0, c1, lvb⟩ := CC.out w1 hC
      unfold frRk
      go_wp2_with fail
      exact HQ _ (.pointer (some ⟨vb, 0, none⟩)) _ (by simp only [frRk, upd1, r4, Nat.reduceEqDiff, reduceIte]) (ext_refl _) rfl hC
    · have HQ := fun (a' : Act) (va : Value) (w' : World) (h1 : a' = frRk vb s m (upd1 gs 13 va)) h2 (h3 : laysRk vb rb s m sec ⟨(numB m).toArray⟩ ⟨(markB 118 [sec, s, ⟨(numB m).toArray⟩]).toArray⟩ ⟨(keyB sec s m).toArray⟩ 6 va w') h4 => hQ.out a' w' ⟨va, h1, h2, h3, h4⟩
      have r5 : gs 12 = .pointer (some ⟨vb, 0, none⟩) := hR 5 (hdeps ⟨5, .data⟩ (by simp) rfl)
      unfold frRk
      go_wp2_with fail
      exact HQ _ (.pointer (some ⟨vb, 0, none⟩)) _ (by simp only [frRk, upd1, r5, Nat.reduceEqDiff, reduceIte]) (ext_refl _) rfl hC
    · have HQ := fun (a' : Act) (va : Value) (w' : World) (h1 : a' = frRk vb s m (upd1 gs 14 va)) h2 (h3 : laysRk vb rb s m sec ⟨(numB m).toArray⟩ ⟨(markB 118 [sec, s, ⟨(numB m).toArray⟩]).toArray⟩ ⟨(keyB sec s m).toArray⟩ 7 va w') h4 => hQ.out a' w' ⟨va, h1, h2, h3, h4⟩
      have r6 : gs 13 = .pointer (some ⟨vb, 0, none⟩) := hR 6 (hdeps ⟨6, .data⟩ (by simp) rfl)
      obtain ⟨c0, c1, lvb⟩ := CC.out w1 hC
      unfold frRk
      go_wp2_with fail
      exact HQ _ (.pointer (some ⟨rb, 0, none⟩)) _ (by simp only [frRk, upd1, r6, Nat.reduceEqDiff, reduceIte]) (ext_refl _) rfl hC
    · have HQ := fun (a' : Act) (va : Value) (w' : World) (h1 : a' = frRk vb s m (upd1 gs 15 va)) h2 (h3 : laysRk vb rb s m sec ⟨(numB m).toArray⟩ ⟨(markB 118 [sec, s, ⟨(numB m).toArray⟩]).toArray⟩ ⟨(keyB sec s m).toArray⟩ 8 va w') h4 => hQ.out a' w' ⟨va, h1, h2, h3, h4⟩
      unfold frRk
      go_wp2_with fail
      exact HQ _ (.pointer (some ⟨vb, 0, none⟩)) _ (by simp only [frRk, upd1, Nat.reduceEqDiff, reduceIte]) (ext_refl _) rfl hC
    · have HQ := fun (a' : Act) (va : Value) (w' : World) (h1 : a' = frRk vb s m (upd1 gs 16 va)) h2 (h3 : laysRk vb rb s m sec ⟨(numB m).toArray⟩ ⟨(markB 118 [sec, s, ⟨(numB m).toArray⟩]).toArray⟩ ⟨(keyB sec s m).toArray⟩ 9 va w') h4 => hQ.out a' w' ⟨va, h1, h2, h3, h4⟩
      have r8 : gs 15 = .pointer (some ⟨vb, 0, none⟩) := hR 8 (hdeps ⟨8, .data⟩ (by simp) rfl)
      obtain ⟨c0, c1, lvb⟩ := CC.out w1 hC
      unfold frRk
      go_wp2_with fail
      exact HQ _ (.pointer (some ⟨vb, 0, none⟩)) _ (by simp only [frRk, upd1, r8, Nat.reduceEqDiff, reduceIte]) (ext_refl _) rfl hC
    · have HQ := fun (a' : Act) (va : Value) (w' : World) (h1 : a' = frRk vb s m (upd1 gs 17 va)) h2 (h3 : laysRk vb rb s m sec ⟨(numB m).toArray⟩ ⟨(markB 118 [sec, s, ⟨(numB m).toArray⟩]).toArray⟩ ⟨(keyB sec s m).toArray⟩ 10 va w') h4 => hQ.out a' w' ⟨va, h1, h2, h3, h4⟩
      have r9 : gs 16 = .pointer (some ⟨vb, 0, none⟩) := hR 9 (hdeps ⟨9, .data⟩ (by simp) rfl)
      unfold frRk
      go_wp2_with fail
      exact HQ _ (.pointer (some ⟨vb, 1, none⟩)) _ (by simp only [frRk, upd1, r9, Nat.reduceEqDiff, reduceIte]) (ext_refl _) rfl hC
    · have HQ := fun (a' : Act) (va : Value) (w' : World) (h1 : a' = frRk vb s m (upd1 gs 18 va)) h2 (h3 : laysRk vb rb s m sec ⟨(numB m).toArray⟩ ⟨(markB 118 [sec, s, ⟨(numB m).toArray⟩]).toArray⟩ ⟨(keyB sec s m).toArray⟩ 11 va w') h4 => hQ.out a' w' ⟨va, h1, h2, h3, h4⟩
      have r10 : gs 17 = .pointer (some ⟨vb, 1, none⟩) := hR 10 (hdeps ⟨10, .data⟩ (by simp) rfl)
      obtain ⟨c0, c1, lvb⟩ := CC.out w1 hC
      unfold frRk
      go_wp2_with fail
      exact HQ _ (.string sec) _ (by simp only [frRk, upd1, r10, Nat.reduceEqDiff, reduceIte]) (ext_refl _) rfl hC
    · have HQ := fun (a' : Act) (va : Value) (w' : World) (h1 : a' = frRk vb s m (upd1 gs 19 va)) h2 (h3 : laysRk vb rb s m sec ⟨(numB m).toArray⟩ ⟨(markB 118 [sec, s, ⟨(numB m).toArray⟩]).toArray⟩ ⟨(keyB sec s m).toArray⟩ 12 va w') h4 => hQ.out a' w' ⟨va, h1, h2, h3, h4⟩
      unfold frRk
      go_wp2_with fail
      exact HQ _ (.string s) _ (by simp only [frRk, upd1, Nat.reduceEqDiff, reduceIte]) (ext_refl _) rfl hC
    · have HQ := fun (a' : Act) (va : Value) (w' : World) (h1 : a' = frRk vb s m (upd1 gs 20 va)) h2 (h3 : laysRk vb rb s m sec ⟨(numB m).toArray⟩ ⟨(markB 118 [sec, s, ⟨(numB m).toArray⟩]).toArray⟩ ⟨(keyB sec s m).toArray⟩ 13 va w') h4 => hQ.out a' w' ⟨va, h1, h2, h3, h4⟩
      unfold frRk
      go_wp2_with fail
      exact HQ _ (.int .i64 m) _ (by simp only [frRk, upd1, Nat.reduceEqDiff, reduceIte]) (ext_refl _) rfl hC
    · have HQ := fun (a' : Act) (va : Value) (w' : World) (h1 : a' = frRk vb s m (upd1 gs 21 va)) h2 (h3 : laysRk vb rb s m sec ⟨(numB m).toArray⟩ ⟨(markB 118 [sec, s, ⟨(numB m).toArray⟩]).toArray⟩ ⟨(keyB sec s m).toArray⟩ 14 va w') h4 => hQ.out a' w' ⟨va, h1, h2, h3, h4⟩
      have r13 : gs 20 = .int .i64 m := hR 13 (hdeps ⟨13, .data⟩ (by simp) rfl)
      unfold frRk
      go_wp2_with fail
      refine (rnum_any m w1).mono ?_
      rintro _ w5 ⟨rfl, hx⟩
      go_wp2_with fail
      exact HQ _ (.string ⟨(numB m).toArray⟩) _ (by simp only [frRk, upd1, r13, Nat.reduceEqDiff, reduceIte]) hx rfl (ext_trans hC hx)
    · have HQ := fun (a' : Act) (va : Value) (w' : World) (h1 : a' = frRk vb s m (upd1 gs 22 va)) h2 (h3 : laysRk vb rb s m sec ⟨(numB m).toArray⟩ ⟨(markB 118 [sec, s, ⟨(numB m).toArray⟩]).toArray⟩ ⟨(keyB sec s m).toArray⟩ 15 va w') h4 => hQ.out a' w' ⟨va, h1, h2, h3, h4⟩
      have r11 : gs 18 = .string sec := hR 11 (hdeps ⟨11, .data⟩ (by simp) rfl)
      have r12 : gs 19 = .string s := hR 12 (hdeps ⟨12, .data⟩ (by simp) rfl)
      have r14 : gs 21 = .string ⟨(numB m).toArray⟩ := hR 14 (hdeps ⟨14, .data⟩ (by simp) rfl)
      unfold frRk
      go_wp2_with fail
      exact HQ _ (.slice (some ⟨w1.heap.size, 0, none⟩) 3 3) _ (by simp only [frRk, upd1, r11, r12, r14, Nat.reduceEqDiff, reduceIte]) (ext_alloc _ (ext_refl w1)) ⟨_, rfl, texts3 w1 _ _ _ _⟩ (ext_alloc _ hC)
    · have HQ := fun (a' : Act) (va : Value) (w' : World) (h1 : a' = frRk vb s m (upd1 gs 23 va)) h2 (h3 : laysRk vb rb s m sec ⟨(numB m).toArray⟩ ⟨(markB 118 [sec, s, ⟨(numB m).toArray⟩]).toArray⟩ ⟨(keyB sec s m).toArray⟩ 16 va w') h4 => hQ.out a' w' ⟨va, h1, h2, h3, h4⟩
      have r7 : gs 14 = .pointer (some ⟨rb, 0, none⟩) := hR 7 (hdeps ⟨7, .data⟩ (by simp) rfl)
      have r15 := hR 15 (hdeps ⟨15, .data⟩ (by simp) rfl)
      obtain ⟨tb, hv, ht⟩ := r15
      change gs 22 = .slice (some ⟨tb, 0, none⟩) 3 3 at hv
      unfold frRk
      go_wp2_with fail
      refine (rmark_any rb 118 118 rfl _ _ 3 rfl 3 w1 ht HLEN.out (isR_ext RR.out hC)).mono ?_
      rintro _ w5 ⟨rfl, hx⟩
      go_wp2_with fail
      exact HQ _ (.string ⟨(markB 118 [sec, s, ⟨(numB m).toArray⟩]).toArray⟩) _ (by simp only [frRk, upd1, r7, hv, Nat.reduceEqDiff, reduceIte]) hx rfl (ext_trans hC hx)
    · have HQ := fun (a' : Act) (va : Value) (w' : World) (h1 : a' = frRk vb s m (upd1 gs 24 va)) h2 (h3 : laysRk vb rb s m sec ⟨(numB m).toArray⟩ ⟨(markB 118 [sec, s, ⟨(numB m).toArray⟩]).toArray⟩ ⟨(keyB sec s m).toArray⟩ 17 va w') h4 => hQ.out a' w' ⟨va, h1, h2, h3, h4⟩
      have r3 : gs 10 = .pointer (some ⟨rb, 0, none⟩) := hR 3 (hdeps ⟨3, .data⟩ (by simp) rfl)
      have r16 : gs 23 = .string ⟨(markB 118 [sec, s, ⟨(numB m).toArray⟩]).toArray⟩ := hR 16 (hdeps ⟨16, .data⟩ (by simp) rfl)
      unfold frRk
      go_wp2_with fail
      refine (rsum_any _ rb w1 HK.out (isR_ext RR.out hC)).mono ?_
      rintro _ w5 ⟨rfl, hx⟩
      rw [show (⟨(sumB (⟨(markB 118 [sec, s, ⟨(numB m).toArray⟩]).toArray⟩ : ByteArray).data.toList).toArray⟩ : ByteArray) = ⟨(keyB sec s m).toArray⟩ from rfl]
      go_wp2_with fail
      exact HQ _ (.string ⟨(keyB sec s m).toArray⟩) _ (by simp only [frRk, upd1, r3, r16, Nat.reduceEqDiff, reduceIte]) hx rfl (ext_trans hC hx)
    · have HQ := fun (a' : Act) (va : Value) (w' : World) (h1 : a' = frRk vb s m (upd1 gs 6 va)) h2 (h3 : laysRk vb rb s m sec ⟨(numB m).toArray⟩ ⟨(markB 118 [sec, s, ⟨(numB m).toArray⟩]).toArray⟩ ⟨(keyB sec s m).toArray⟩ 18 va w') h4 => hQ.out a' w' ⟨va, h1, h2, h3, h4⟩
      have r17 : gs 24 = .string ⟨(keyB sec s m).toArray⟩ := hR 17 (hdeps ⟨17, .data⟩ (by simp) rfl)
      unfold frRk
      go_wp2_with fail
      exact HQ _ (.string ⟨(keyB sec s m).toArray⟩) _ (by simp only [frRk, upd1, r17, Nat.reduceEqDiff, reduceIte]) (ext_refl _) rfl hC
  intro L1 g1 w2 hall hR hC
  have r18 : g1 6 = .string ⟨(keyB sec s m).toArray⟩ := hR 18 (by decide)
  have HC := Lib.hid hC
  clear hall hR hC
  unfold frRk
  rw [r18]
  go_wp2_with fail
  go_ret
  exact ⟨rfl, HC.out⟩
theorem rvaultAt.ner {w : World} {vb rb hb sb n : Nat} {sec : ByteArray} {H : List (ByteArray × I64)} {B : List (ByteArray × Bool)} (h : rvaultAt w vb rb hb sb n sec H B) : rb ≠ hb ∧ rb ≠ sb := by
  have hr : w.heap[rb]? = some (.cells (row32 72 refR) 56 (0, 0)) := h.r_
  constructor
  · rintro rfl
    obtain ⟨es, ⟨es', clock, h1, _⟩, _⟩ := h.had.own
    rw [hr] at h1; cases h1
  · rintro rfl
    obtain ⟨es, ⟨es', clock, h1, _⟩, _⟩ := h.has.own
    rw [hr] at h1; cases h1
theorem rvaultAt.same {w w' : World} {vb rb hb sb n : Nat} {sec : ByteArray} {H : List (ByteArray × I64)} {B : List (ByteArray × Bool)} (h : rvaultAt w vb rb hb sb n sec H B) (h1 : w'.heap[vb]? = w.heap[vb]?) (h2 : w'.heap[hb]? = w.heap[hb]?) (h3 : w'.heap[sb]? = w.heap[sb]?) (h4 : w'.heap[rb]? = w.heap[rb]?) : rvaultAt w' vb rb hb sb n sec H B :=
  ⟨h1.trans h.blk, h.had.same h2, h.has.same h3, h4.trans h.r_, h.ne1, h.ne2, h.ne3, h.ne4⟩
theorem rvaultAt.lt {w : World} {vb rb hb sb n : Nat} {sec : ByteArray} {H : List (ByteArray × I64)} {B : List (ByteArray × Bool)} (h : rvaultAt w vb rb hb sb n sec H B) : vb < w.heap.size ∧ hb < w.heap.size ∧ sb < w.heap.size ∧ rb < w.heap.size :=
  ⟨lt_of_heap h.blk, h.had.lt, h.has.lt, lt_of_heap h.r_⟩
theorem rvaultAt.ext {w w' : World} {vb rb hb sb n : Nat} {sec : ByteArray} {H : List (ByteArray × I64)} {B : List (ByteArray × Bool)} (h : rvaultAt w vb rb hb sb n sec H B) (hx : ∃ x, w' = ext w x) : rvaultAt w' vb rb hb sb n sec H B := by
  have hb := (ext_iff.1 hx).block
  obtain ⟨l1, l2, l3, l4⟩ := h.lt
  exact h.same (hb _ l1) (hb _ l2) (hb _ l3) (hb _ l4)
theorem rvaultAt.mono {w : World} {vb rb hb sb n n' : Nat} {sec : ByteArray} {H : List (ByteArray × I64)} {B : List (ByteArray × Bool)} (h : rvaultAt w vb rb hb sb n sec H B) (hn : n ≤ n') : rvaultAt w vb rb hb sb n' sec H B :=
  ⟨h.blk, h.had.mono hn, h.has.mono hn, h.r_, h.ne1, h.ne2, h.ne3, h.ne4⟩
/-- What Key hands back. -/
def rkeyV (sec s : ByteArray) (f : Bool) (m g : Int) : Value :=
  if (decide (1 ≤ g) && decide (g ≤ m)) = true then (if (decide (g ≠ m) || !f) = true then .tuple #[.string ⟨#[]⟩, .int .i64 8] else .tuple #[.string ⟨(keyB sec s g).toArray⟩, .int .i64 0])
  else .tuple #[.string ⟨#[]⟩, .int .i64 7]
set_option maxRecDepth 100000 in
set_option maxHeartbeats 4000000 in
theorem in_any (n a b : Int) (w : World) : Calls Tryz.prog 27 #[.int .i64 n, .int .i64 a, .int .i64 b] w fun r w' => r = .returned (.bool (decide (a ≤ n) && decide (n ≤ b))) ∧ w = w' := by
  by_cases h : a ≤ n
  all_goals
    go_enter Tryz.func27, Tryz.ntmps27
    go_wp2_with fail
    go_ret
    first | (simp [h]; done) | (simp; omega)
set_option maxRecDepth 100000 in
set_option maxHeartbeats 8000000 in
theorem rvkey_any (s : ByteArray) (g : Int) (w : World) (vb rb hb sb n : Nat) (sec : ByteArray) (H : List (ByteArray × I64)) (B : List (ByteArray × Bool)) (h : rvaultAt w vb rb hb sb n sec H B) (hs : s.size ≤ 1048576) (hsec : sec.size ≤ 1048576) :
    Calls Tryz.prog 13 #[.pointer (some ⟨vb, 0, none⟩), .string s, .int .i64 g] w fun r w' => r = .returned (rkeyV sec s ((findS s B).getD false) (hadM s H) g) ∧ ∃ x, w' = ext w x := by
  have hsl : s.size ≤ maxLen := by unfold maxLen; omega
  obtain ⟨c0, c1, c2, c3⟩ := h.cells
  have l1 := h.had.look elemI Tryz.underlying61 hsl
  have l2 := h.has.look elemB Tryz.underlying62 hsl
  have hvb := lt_of_heap h.blk
  have KK := Lib.hid (rkey_any s g w vb rb hb sb n sec H B h hs hsec)
  clear h hs hsec hsl
  have hm0 : ((findS s H).getD ⟨0, by decide⟩).1 = hadM s H := rfl
  rw [hm0] at l1
  clear hm0
  generalize hadM s H = m at l1 ⊢
  generalize (findS s B).getD false = f at l2 ⊢
  unfold rkeyV
  have IN := in_any g 1 m w
  cases h1 : (decide (1 ≤ g) && decide (g ≤ m)) with
  | false =>
    rw [h1] at IN
    clear h1 KK
    rw [if_neg (by decide)]
    go_enter Tryz.func13, Tryz.ntmps13
    go_wp2_with fail
    refine IN.mono ?_
    rintro _ w1 ⟨rfl, rfl⟩
    go_wp2_with fail
    go_ret2
    exact ⟨rfl, ext_refl _⟩
  | true =>
    rw [h1] at IN
    clear h1
    rw [if_pos rfl]
    by_cases hg : g = m
    · subst hg
      cases f with
      | true =>
        rw [if_neg (by simp)]
        go_enter Tryz.func13, Tryz.ntmps13
        go_wp2_with fail
        refine IN.mono ?_
        rintro _ w1 ⟨rfl, rfl⟩
        go_wp2_with fail
        refine KK.out.mono ?_
        rintro _ w2 ⟨rfl, hx⟩
        go_wp2_with fail
        go_ret2
        exact ⟨rfl, hx⟩
      | false =>
        rw [if_pos (by simp)]
        clear KK
        go_enter Tryz.func13, Tryz.ntmps13
        go_wp2_with fail
        refine IN.mono ?_
        rintro _ w1 ⟨rfl, rfl⟩
        go_wp2_with fail
        go_ret2
        exact ⟨rfl, ext_refl _⟩
    · rw [if_pos (by simp [hg])]
      clear KK
      go_enter Tryz.func13, Tryz.ntmps13
      go_wp2_with fail
      refine IN.mono ?_
      rintro _ w1 ⟨rfl, rfl⟩
      go_wp2_with fail
      go_ret2
      exact ⟨rfl, ext_refl _⟩
end Go.Proofs.YtnmpchojhbmbmaaGreatDoor
