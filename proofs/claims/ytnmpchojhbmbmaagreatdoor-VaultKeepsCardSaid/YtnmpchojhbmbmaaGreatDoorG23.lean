/- The document's vault: Make (the walk; its return by slots). -/
import Derived.Test.YtnmpchojhbmbmaaGreatDoorProg
import Derived.Test.YtnmpchojhbmbmaaGreatDoorG22
namespace Go.Proofs.YtnmpchojhbmbmaaGreatDoor
open Go.RowKit Go.Shelf

/-- What Make hands back, and what then is there. -/
def rmakeV (sec s : ByteArray) (m : Int) (f : Bool) : Value :=
  if nameB s.data.toList = true then (if f = true then .tuple #[.int .i64 m, .string ⟨(keyB sec s m).toArray⟩, .int .i64 0] else .tuple #[.int .i64 (m + 1), .string ⟨(keyB sec s (m + 1)).toArray⟩, .int .i64 0])
  else .tuple #[.int .i64 0, .string ⟨#[]⟩, .int .i64 5]
def rmakeH (s : ByteArray) (H : List (ByteArray × I64)) (f : Bool) : List (ByteArray × I64) :=
  if nameB s.data.toList = true ∧ f = false then putS s (mkI (hadM s H + 1)) H else H
def rmakeB (s : ByteArray) (B : List (ByteArray × Bool)) (f : Bool) : List (ByteArray × Bool) :=
  if nameB s.data.toList = true ∧ f = false then putS s true B else B
def frRm (vb : Nat) (sb : Nat) (s : ByteArray) (x15 : Value) (x16 : Value) (x17 : Value) (x18 : Value) (x19 : Value) (x20 : Value) (x21 : Value) (x22 : Value) (x23 : Value) (x24 : Value) (x25 : Value) (x26 : Value) (x27 : Value) (x28 : Value) (g : Nat → Value) : Act := { tmps := #[.pointer (some ⟨vb, 0, none⟩), .string s, undef, undef, g 4, g 5, g 6, .string s, .bool true, .bool false, .pointer (some ⟨vb, 0, none⟩), .pointer (some ⟨vb, 0, none⟩), .pointer (some ⟨vb, 3, none⟩), .map (some sb), .string s, x15, x16, x17, x18, x19, x20, x21, x22, x23, x24, x25, x26, x27, x28, g 29, g 30, g 31, g 32, g 33, g 34, g 35, g 36, g 37, g 38, g 39, g 40, g 41, g 42, g 43], defers := [] }
def dstRm (i : Nat) : Nat := ([29, 30, 31, 32, 33, 34, 35, 36, 37, 38, 39, 40, 41, 42, 43, 4, 5, 6] : List Nat).getD i (2000 + i)
def laysRm (vb : Nat) (hb : Nat) (s : ByteArray) (m : Int) (ks : ByteArray) (j : Nat) (v : Value) (_ : World) : Prop :=
  match j with
  | 0 => v = .pointer (some ⟨vb, 0, none⟩)
  | 1 => v = .pointer (some ⟨vb, 0, none⟩)
  | 2 => v = .pointer (some ⟨vb, 2, none⟩)
  | 3 => v = .map (some hb)
  | 4 => v = .string s
  | 5 => v = .int .i64 m
  | 6 => v = .pointer (some ⟨vb, 0, none⟩)
  | 7 => v = .string s
  | 8 => v = .pointer (some ⟨vb, 0, none⟩)
  | 9 => v = .pointer (some ⟨vb, 0, none⟩)
  | 10 => v = .pointer (some ⟨vb, 2, none⟩)
  | 11 => v = .map (some hb)
  | 12 => v = .string s
  | 13 => v = .int .i64 m
  | 14 => v = .string ks
  | 15 => v = .int .i64 m
  | 16 => v = .string ks
  | 17 => v = .int .i64 0
  | _ => True
set_option maxRecDepth 100000 in
set_option maxHeartbeats 8000000 in
theorem rvmake_any (s : ByteArray) (w : World) (vb rb hb sb n : Nat) (sec : ByteArray) (H : List (ByteArray × I64)) (B : List (ByteArray × Bool)) (h : rvaultAt w vb rb hb sb n sec H B) (hs : s.size ≤ 1048576) (hsec : sec.size ≤ 1048576) (hn : n ≤ 1000000) (hm : 0 ≤ hadM s H ∧ hadM s H < 1000000) :
    Calls Tryz.prog 9 #[.pointer (some ⟨vb, 0, none⟩), .string s] w fun r w' => r = .returned (rmakeV sec s (hadM s H) ((findS s B).getD false)) ∧ rvaultAt w' vb rb hb sb (n + 2) sec (rmakeH s H ((findS s B).getD false)) (rmakeB s B ((findS s B).getD false)) ∧ keptBut w w' hb sb := by
  have NM := fun w => rname_any s w hs
  have hsl : s.size ≤ maxLen := by unfold maxLen; omega
  have hnl : n < maxLen := by unfold maxLen; omega
  have HV := Lib.hid h
  have hne := Lib.hid h.ner
  have HS := Lib.hid hs
  have HSEC := Lib.hid hsec
  clear h hs hsec
  have hm0 : ((findS s H).getD ⟨0, by decide⟩).1 = hadM s H := rfl
  have EM : ∀ f, rmakeH s H f = if nameB s.data.toList = true ∧ f = false then putS s (mkI (hadM s H + 1)) H else H := fun _ => rfl
  have ET : ∀ f, rmakeB s B f = if nameB s.data.toList = true ∧ f = false then putS s true B else B := fun _ => rfl
  rw [ET, EM]
  clear ET EM
  generalize hadM s H = m at hm0 hm ⊢
  cases hb' : nameB s.data.toList with
  | false =>
    have E1 : rmakeV sec s m ((findS s B).getD false) = .tuple #[.int .i64 0, .string ⟨#[]⟩, .int .i64 5] := by unfold rmakeV; rw [hb']; rfl
    have E2 : (if false = true ∧ (findS s B).getD false = false then putS s (mkI (m + 1)) H else H) = H := if_neg (by simp)
    have E3 : (if false = true ∧ (findS s B).getD false = false then putS s true B else B) = B := if_neg (by simp)
    rw [E1, E2, E3]
    rw [hb'] at NM
    clear E1 E2 E3 hb' hm hn
    go_enter Tryz.func9, Tryz.ntmps9
    go_wp2_with fail
    refine (NM _).mono ?_
    rintro _ w1 ⟨rfl, hx⟩
    have hx : ∃ x, w1 = ext w x := by rw [← hx]; exact ext_refl _
    have X1 := Lib.hid hx
    clear hx
    go_wp2_with fail
    go_ret3
    exact ⟨rfl, (HV.out.ext X1.out).mono (by omega), keptBut.of_ext X1.out⟩
  | true =>
    rw [hb'] at NM
    cases hf : (findS s B).getD false with
    | true =>
      have E1 : rmakeV sec s m true = .tuple #[.int .i64 m, .string ⟨(keyB sec s m).toArray⟩, .int .i64 0] := by unfold rmakeV; rw [hb']; rfl
      have E2 : (if true = true ∧ true = false then putS s (mkI (m + 1)) H else H) = H := if_neg (by simp)
      have E3 : (if true = true ∧ true = false then putS s true B else B) = B := if_neg (by simp)
      rw [E1, E2, E3]
      have hf := Lib.hid hf
      clear E1 E2 E3 hb' hm hn
      go_enter Tryz.func9, Tryz.ntmps9
      go_wp2_with fail
      refine (NM _).mono ?_
      rintro _ w1 ⟨rfl, hx⟩
      have hx : ∃ x, w1 = ext w x := by rw [← hx]; exact ext_refl _
      have X1 := Lib.hid hx
      have V1 := Lib.hid (HV.out.ext hx)
      obtain ⟨c0, c1, c2, c3⟩ := V1.out.cells
      have l2 := V1.out.has.look elemB Tryz.underlying62 hsl
      have hvb := lt_of_heap V1.out.blk
      rw [hf.out] at l2
      clear hx
      go_wp2_with fail
      have LK : Hid (∀ w2, (∃ x, w2 = ext w1 x) → w2.cell? ⟨vb, 2, none⟩ = some (.map (some hb)) ∧ (Instr.lookup 61 (.map (some hb)) (.string s) false).run Tryz.prog w2 = .ok (.int .i64 m) w2 ∧ vb < w2.heap.size) := Lib.hid fun w2 hx => by
        have V2 := V1.out.ext hx
        have l1 := V2.had.look elemI Tryz.underlying61 hsl
        rw [hm0] at l1
        exact ⟨V2.cells.2.2.1, l1, lt_of_heap V2.blk⟩
      have KK := Lib.hid (fun w2 (hx : ∃ x, w2 = ext w1 x) => rkey_any s m w2 vb rb hb sb n sec H B (V1.out.ext hx) HS.out HSEC.out)
      clear l2 c0 c1 c2 c3 hvb NM
      refine wp_region_slots (frRm vb sb s (.bool true) (.bool false) (undef) (undef) (undef) (undef) (undef) (undef) (undef) (undef) (undef) (undef) (undef) (undef)) dstRm (fun k => if k = 4 then .int .i64 0 else if k = 5 then .string ⟨#[]⟩ else if k = 6 then .int .i64 0 else undef) (laysRm vb hb s m ⟨(keyB sec s m).toArray⟩) (fun L g w => ∃ x, w = ext w1 x) (fun w w' => ∃ x, w' = ext w x) (by kernel_rfl) (by kernel_rfl) rfl ?_ (by kernel_rfl) (ext_refl _) ?_ ?_
      · exact fun j v w w' h hr => by unfold laysRm at hr ⊢; split at hr <;> exact hr
      · refine ⟨?_, ?_, ?_, ?_, ?_, ?_, ?_, ?_, ?_, ?_, ?_, ?_, ?_, ?_, ?_, ?_, ?_, ?_, trivial⟩
        all_goals (intro L gs w1 hLi hdeps hR hC; refine ends_of fun Q hQ => ?_)
        · have HQ := fun (a' : Act) (va : Value) (w' : World) (h1 : a' = frRm vb sb s (.bool true) (.bool false) (undef) (undef) (undef) (undef) (undef) (undef) (undef) (undef) (undef) (undef) (undef) (undef) (upd1 gs 29 va)) h2 (h3 : laysRm vb hb s m ⟨(keyB sec s m).toArray⟩ 0 va w') h4 => hQ.out a' w' ⟨va, h1, h2, h3, h4⟩
          unfold frRm
          go_wp2_with fail
          exact HQ _ (.pointer (some ⟨vb, 0, none⟩)) _ (by simp only [frRm, upd1, Nat.reduceEqDiff, reduceIte]) (ext_refl _) rfl hC
        · have HQ := fun (a' : Act) (va : Value) (w' : World) (h1 : a' = frRm vb sb s (.bool true) (.bool false) (undef) (undef) (undef) (undef) (undef) (undef) (undef) (undef) (undef) (undef) (undef) (undef) (upd1 gs 30 va)) h2 (h3 : laysRm vb hb s m ⟨(keyB sec s m).toArray⟩ 1 va w') h4 => hQ.out a' w' ⟨va, h1, h2, h3, h4⟩
          have r0 : gs 29 = .pointer (some ⟨vb, 0, none⟩) := hR 0 (hdeps ⟨0, .data⟩ (by simp) rfl)
          obtain ⟨c2, lk, lvb⟩ := LK.out w1 hC
          unfold frRm
          go_wp2_with fail
          exact HQ _ (.pointer (some ⟨vb, 0, none⟩)) _ (by simp only [frRm, upd1, r0, Nat.reduceEqDiff, reduceIte]) (ext_refl _) rfl hC
        · have HQ := fun (a' : Act) (va : Value) (w' : World) (h1 : a' = frRm vb sb s (.bool true) (.bool false) (undef) (undef) (undef) (undef) (undef) (undef) (undef) (undef) (undef) (undef) (undef) (undef) (upd1 gs 31 va)) h2 (h3 : laysRm vb hb s m ⟨(keyB sec s m).toArray⟩ 2 va w') h4 => hQ.out a' w' ⟨va, h1, h2, h3, h4⟩
          have r1 : gs 30 = .pointer (some ⟨vb, 0, none⟩) := hR 1 (hdeps ⟨1, .data⟩ (by simp) rfl)
          unfold frRm
          go_wp2_with fail
          exact HQ _ (.pointer (some ⟨vb, 2, none⟩)) _ (by simp only [frRm, upd1, r1, Nat.reduceEqDiff, reduceIte]) (ext_refl _) rfl hC
        · have HQ := fun (a' : Act) (va : Value) (w' : World) (h1 : a' = frRm vb sb s (.bool true) (.bool false) (undef) (undef) (undef) (undef) (undef) (undef) (undef) (undef) (undef) (undef) (undef) (undef) (upd1 gs 32 va)) h2 (h3 : laysRm vb hb s m ⟨(keyB sec s m).toArray⟩ 3 va w') h4 => hQ.out a' w' ⟨va, h1, h2, h3, h4⟩
          have r2 : gs 31 = .pointer (some ⟨vb, 2, none⟩) := hR 2 (hdeps ⟨2, .data⟩ (by simp) rfl)
          obtain ⟨c2, lk, lvb⟩ := LK.out w1 hC
          unfold frRm
          go_wp2_with fail
          exact HQ _ (.map (some hb)) _ (by simp only [frRm, upd1, r2, Nat.reduceEqDiff, reduceIte]) (ext_refl _) rfl hC
        · have HQ := fun (a' : Act) (va : Value) (w' : World) (h1 : a' = frRm vb sb s (.bool true) (.bool false) (undef) (undef) (undef) (undef) (undef) (undef) (undef) (undef) (undef) (undef) (undef) (undef) (upd1 gs 33 va)) h2 (h3 : laysRm vb hb s m ⟨(keyB sec s m).toArray⟩ 4 va w') h4 => hQ.out a' w' ⟨va, h1, h2, h3, h4⟩
          unfold frRm
          go_wp2_with fail
          exact HQ _ (.string s) _ (by simp only [frRm, upd1, Nat.reduceEqDiff, reduceIte]) (ext_refl _) rfl hC
        · have HQ := fun (a' : Act) (va : Value) (w' : World) (h1 : a' = frRm vb sb s (.bool true) (.bool false) (undef) (undef) (undef) (undef) (undef) (undef) (undef) (undef) (undef) (undef) (undef) (undef) (upd1 gs 34 va)) h2 (h3 : laysRm vb hb s m ⟨(keyB sec s m).toArray⟩ 5 va w') h4 => hQ.out a' w' ⟨va, h1, h2, h3, h4⟩
          have r3 : gs 32 = .map (some hb) := hR 3 (hdeps ⟨3, .data⟩ (by simp) rfl)
          have r4 : gs 33 = .string s := hR 4 (hdeps ⟨4, .data⟩ (by simp) rfl)
          obtain ⟨c2, lk, lvb⟩ := LK.out w1 hC
          unfold frRm
          go_wp2_with fail
          exact HQ _ (.int .i64 m) _ (by simp only [frRm, upd1, r3, r4, Nat.reduceEqDiff, reduceIte]) (ext_refl _) rfl hC
        · have HQ := fun (a' : Act) (va : Value) (w' : World) (h1 : a' = frRm vb sb s (.bool true) (.bool false) (undef) (undef) (undef) (undef) (undef) (undef) (undef) (undef) (undef) (undef) (undef) (undef) (upd1 gs 35 va)) h2 (h3 : laysRm vb hb s m ⟨(keyB sec s m).toArray⟩ 6 va w') h4 => hQ.out a' w' ⟨va, h1, h2, h3, h4⟩
          unfold frRm
          go_wp2_with fail
          exact HQ _ (.pointer (some ⟨vb, 0, none⟩)) _ (by simp only [frRm, upd1, Nat.reduceEqDiff, reduceIte]) (ext_refl _) rfl hC
        · have HQ := fun (a' : Act) (va : Value) (w' : World) (h1 : a' = frRm vb sb s (.bool true) (.bool false) (undef) (undef) (undef) (undef) (undef) (undef) (undef) (undef) (undef) (undef) (undef) (undef) (upd1 gs 36 va)) h2 (h3 : laysRm vb hb s m ⟨(keyB sec s m).toArray⟩ 7 va w') h4 => hQ.out a' w' ⟨va, h1, h2, h3, h4⟩
          unfold frRm
          go_wp2_with fail
          exact HQ _ (.string s) _ (by simp only [frRm, upd1, Nat.reduceEqDiff, reduceIte]) (ext_refl _) rfl hC
        · have HQ := fun (a' : Act) (va : Value) (w' : World) (h1 : a' = frRm vb sb s (.bool true) (.bool false) (undef) (undef) (undef) (undef) (undef) (undef) (undef) (undef) (undef) (undef) (undef) (undef) (upd1 gs 37 va)) h2 (h3 : laysRm vb hb s m ⟨(keyB sec s m).toArray⟩ 8 va w') h4 => hQ.out a' w' ⟨va, h1, h2, h3, h4⟩
          unfold frRm
          go_wp2_with fail
          exact HQ _ (.pointer (some ⟨vb, 0, none⟩)) _ (by simp only [frRm, upd1, Nat.reduceEqDiff, reduceIte]) (ext_refl _) rfl hC
        · have HQ := fun (a' : Act) (va : Value) (w' : World) (h1 : a' = frRm vb sb s (.bool true) (.bool false) (undef) (undef) (undef) (undef) (undef) (undef) (undef) (undef) (undef) (undef) (undef) (undef) (upd1 gs 38 va)) h2 (h3 : laysRm vb hb s m ⟨(keyB sec s m).toArray⟩ 9 va w') h4 => hQ.out a' w' ⟨va, h1, h2, h3, h4⟩
          have r8 : gs 37 = .pointer (some ⟨vb, 0, none⟩) := hR 8 (hdeps ⟨8, .data⟩ (by simp) rfl)
          obtain ⟨c2, lk, lvb⟩ := LK.out w1 hC
          unfold frRm
          go_wp2_with fail
          exact HQ _ (.pointer (some ⟨vb, 0, none⟩)) _ (by simp only [frRm, upd1, r8, Nat.reduceEqDiff, reduceIte]) (ext_refl _) rfl hC
        · have HQ := fun (a' : Act) (va : Value) (w' : World) (h1 : a' = frRm vb sb s (.bool true) (.bool false) (undef) (undef) (undef) (undef) (undef) (undef) (undef) (undef) (undef) (undef) (undef) (undef) (upd1 gs 39 va)) h2 (h3 : laysRm vb hb s m ⟨(keyB sec s m).toArray⟩ 10 va w') h4 => hQ.out a' w' ⟨va, h1, h2, h3, h4⟩
          have r9 : gs 38 = .pointer (some ⟨vb, 0, none⟩) := hR 9 (hdeps ⟨9, .data⟩ (by simp) rfl)
          unfold frRm
          go_wp2_with fail
          exact HQ _ (.pointer (some ⟨vb, 2, none⟩)) _ (by simp only [frRm, upd1, r9, Nat.reduceEqDiff, reduceIte]) (ext_refl _) rfl hC
        · have HQ := fun (a' : Act) (va : Value) (w' : World) (h1 : a' = frRm vb sb s (.bool true) (.bool false) (undef) (undef) (undef) (undef) (undef) (undef) (undef) (undef) (undef) (undef) (undef) (undef) (upd1 gs 40 va)) h2 (h3 : laysRm vb hb s m ⟨(keyB sec s m).toArray⟩ 11 va w') h4 => hQ.out a' w' ⟨va, h1, h2, h3, h4⟩
          have r10 : gs 39 = .pointer (some ⟨vb, 2, none⟩) := hR 10 (hdeps ⟨10, .data⟩ (by simp) rfl)
          obtain ⟨c2, lk, lvb⟩ := LK.out w1 hC
          unfold frRm
          go_wp2_with fail
          exact HQ _ (.map (some hb)) _ (by simp only [frRm, upd1, r10, Nat.reduceEqDiff, reduceIte]) (ext_refl _) rfl hC
        · have HQ := fun (a' : Act) (va : Value) (w' : World) (h1 : a' = frRm vb sb s (.bool true) (.bool false) (undef) (undef) (undef) (undef) (undef) (undef) (undef) (undef) (undef) (undef) (undef) (undef) (upd1 gs 41 va)) h2 (h3 : laysRm vb hb s m ⟨(keyB sec s m).toArray⟩ 12 va w') h4 => hQ.out a' w' ⟨va, h1, h2, h3, h4⟩
          unfold frRm
          go_wp2_with fail
          exact HQ _ (.string s) _ (by simp only [frRm, upd1, Nat.reduceEqDiff, reduceIte]) (ext_refl _) rfl hC
        · have HQ := fun (a' : Act) (va : Value) (w' : World) (h1 : a' = frRm vb sb s (.bool true) (.bool false) (undef) (undef) (undef) (undef) (undef) (undef) (undef) (undef) (undef) (undef) (undef) (undef) (upd1 gs 42 va)) h2 (h3 : laysRm vb hb s m ⟨(keyB sec s m).toArray⟩ 13 va w') h4 => hQ.out a' w' ⟨va, h1, h2, h3, h4⟩
          have r11 : gs 40 = .map (some hb) := hR 11 (hdeps ⟨11, .data⟩ (by simp) rfl)
          have r12 : gs 41 = .string s := hR 12 (hdeps ⟨12, .data⟩ (by simp) rfl)
          obtain ⟨c2, lk, lvb⟩ := LK.out w1 hC
          unfold frRm
          go_wp2_with fail
          exact HQ _ (.int .i64 m) _ (by simp only [frRm, upd1, r11, r12, Nat.reduceEqDiff, reduceIte]) (ext_refl _) rfl hC
        · have HQ := fun (a' : Act) (va : Value) (w' : World) (h1 : a' = frRm vb sb s (.bool true) (.bool false) (undef) (undef) (undef) (undef) (undef) (undef) (undef) (undef) (undef) (undef) (undef) (undef) (upd1 gs 43 va)) h2 (h3 : laysRm vb hb s m ⟨(keyB sec s m).toArray⟩ 14 va w') h4 => hQ.out a' w' ⟨va, h1, h2, h3, h4⟩
          have r6 : gs 35 = .pointer (some ⟨vb, 0, none⟩) := hR 6 (hdeps ⟨6, .data⟩ (by simp) rfl)
          have r7 : gs 36 = .string s := hR 7 (hdeps ⟨7, .data⟩ (by simp) rfl)
          have r13 : gs 42 = .int .i64 m := hR 13 (hdeps ⟨13, .data⟩ (by simp) rfl)
          unfold frRm
          go_wp2_with fail
          refine (KK.out w1 hC).mono ?_
          rintro _ w5 ⟨rfl, hx⟩
          go_wp2_with fail
          exact HQ _ (.string ⟨(keyB sec s m).toArray⟩) _ (by simp only [frRm, upd1, r6, r7, r13, Nat.reduceEqDiff, reduceIte]) hx rfl (ext_trans hC hx)
        · have HQ := fun (a' : Act) (va : Value) (w' : World) (h1 : a' = frRm vb sb s (.bool true) (.bool false) (undef) (undef) (undef) (undef) (undef) (undef) (undef) (undef) (undef) (undef) (undef) (undef) (upd1 gs 4 va)) h2 (h3 : laysRm vb hb s m ⟨(keyB sec s m).toArray⟩ 15 va w') h4 => hQ.out a' w' ⟨va, h1, h2, h3, h4⟩
          have r5 : gs 34 = .int .i64 m := hR 5 (hdeps ⟨5, .data⟩ (by simp) rfl)
          unfold frRm
          go_wp2_with fail
          exact HQ _ (.int .i64 m) _ (by simp only [frRm, upd1, r5, Nat.reduceEqDiff, reduceIte]) (ext_refl _) rfl hC
        · have HQ := fun (a' : Act) (va : Value) (w' : World) (h1 : a' = frRm vb sb s (.bool true) (.bool false) (undef) (undef) (undef) (undef) (undef) (undef) (undef) (undef) (undef) (undef) (undef) (undef) (upd1 gs 5 va)) h2 (h3 : laysRm vb hb s m ⟨(keyB sec s m).toArray⟩ 16 va w') h4 => hQ.out a' w' ⟨va, h1, h2, h3, h4⟩
          have r14 : gs 43 = .string ⟨(keyB sec s m).toArray⟩ := hR 14 (hdeps ⟨14, .data⟩ (by simp) rfl)
          unfold frRm
          go_wp2_with fail
          exact HQ _ (.string ⟨(keyB sec s m).toArray⟩) _ (by simp only [frRm, upd1, r14, Nat.reduceEqDiff, reduceIte]) (ext_refl _) rfl hC
        · have HQ := fun (a' : Act) (va : Value) (w' : World) (h1 : a' = frRm vb sb s (.bool true) (.bool false) (undef) (undef) (undef) (undef) (undef) (undef) (undef) (undef) (undef) (undef) (undef) (undef) (upd1 gs 6 va)) h2 (h3 : laysRm vb hb s m ⟨(keyB sec s m).toArray⟩ 17 va w') h4 => hQ.out a' w' ⟨va, h1, h2, h3, h4⟩
          unfold frRm
          go_wp2_with fail
          exact HQ _ (.int .i64 0) _ (by simp only [frRm, upd1, Nat.reduceEqDiff, reduceIte]) (ext_refl _) rfl hC
      intro L1 g1 w9 hall hR hC
      have r15 : g1 4 = .int .i64 m := hR 15 (by decide)
      have r16 : g1 5 = .string ⟨(keyB sec s m).toArray⟩ := hR 16 (by decide)
      have r17 : g1 6 = .int .i64 0 := hR 17 (by decide)
      have HC := Lib.hid hC
      clear hall hR hC
      unfold frRm
      rw [r15, r16, r17]
      go_wp2_with fail
      go_ret3
      exact ⟨rfl, (V1.out.ext HC.out).mono (by omega), keptBut.of_ext (ext_trans X1.out HC.out)⟩
    | false =>
      have E1 : rmakeV sec s m false = .tuple #[.int .i64 (m + 1), .string ⟨(keyB sec s (m + 1)).toArray⟩, .int .i64 0] := by unfold rmakeV; rw [hb']; rfl
      have E2 : (if true = true ∧ false = false then putS s (mkI (m + 1)) H else H) = putS s (mkI (m + 1)) H := if_pos ⟨rfl, rfl⟩
      have E3 : (if true = true ∧ false = false then putS s true B else B) = putS s true B := if_pos ⟨rfl, rfl⟩
      rw [E1, E2, E3]
      have hf := Lib.hid hf
      have hz : Hid ((mkI (m + 1)).1 = m + 1) := Lib.hid (mkI_val ⟨by omega, by omega⟩)
      clear E1 E2 E3 hb'
      go_enter Tryz.func9, Tryz.ntmps9
      go_wp2_with fail
      refine (NM _).mono ?_
      rintro _ w1 ⟨rfl, hx⟩
      have hx : ∃ x, w1 = ext w x := by rw [← hx]; exact ext_refl _
      have X1 := Lib.hid hx
      have V1 := Lib.hid (HV.out.ext hx)
      obtain ⟨c0, c1, c2, c3⟩ := V1.out.cells
      have l1 := V1.out.had.look elemI Tryz.underlying61 hsl
      have l2 := V1.out.has.look elemB Tryz.underlying62 hsl
      have hvb := lt_of_heap V1.out.blk
      rw [hf.out] at l2
      rw [hm0] at l1
      clear hx
      obtain ⟨w2, hput, hhad, hg⟩ := V1.out.had.put elemI Tryz.underlying61 (mkI (m + 1)) hsl hnl
      have hfm : ((findS s (putS s (mkI (m + 1)) H)).getD ⟨0, by decide⟩).1 = m + 1 := by
        rw [show findS s (putS s (mkI (m + 1)) H) = some (mkI (m + 1)) from by unfold findS putS; simp]
        exact hz.out
      have lt1 := V1.out.lt
      have V2 : Hid (rvaultAt w2 vb rb hb sb (n + 1) sec (putS s (mkI (m + 1)) H) B) := Lib.hid ⟨(hg.block vb hvb (fun e => V1.out.ne2 (by injection e with e; exact e.symm))).trans V1.out.blk, hhad, (V1.out.has.kept hg (fun e => V1.out.ne1 (by injection e with e; exact e.symm))).mono (by omega), (hg.block rb lt1.2.2.2 (fun e => hne.out.1 (by injection e))).trans V1.out.r_, V1.out.ne1, V1.out.ne2, V1.out.ne3, V1.out.ne4⟩
      have K2 := Lib.hid ((keptBut.of_ext (a := hb) (b := sb) X1.out).trans (keptBut.of_fst hg))
      have hfm := Lib.hid hfm
      rw [hz.out] at hput
      obtain ⟨d0, d1, d2, d3⟩ := V2.out.cells
      have hvb2 := lt_of_heap V2.out.blk
      obtain ⟨w3, hput3, hhas, hg3⟩ := V2.out.has.put elemB Tryz.underlying62 true hsl (by unfold maxLen; omega)
      have lt2 := V2.out.lt
      have V3 : Hid (rvaultAt w3 vb rb hb sb (n + 2) sec (putS s (mkI (m + 1)) H) (putS s true B)) := Lib.hid ⟨(hg3.block vb hvb2 (fun e => V2.out.ne3 (by injection e with e; exact e.symm))).trans V2.out.blk, (V2.out.had.kept hg3 (fun e => V2.out.ne1 (by injection e))).mono (by omega), hhas, (hg3.block rb lt2.2.2.2 (fun e => hne.out.2 (by injection e))).trans V2.out.r_, V2.out.ne1, V2.out.ne2, V2.out.ne3, V2.out.ne4⟩
      have K3 := Lib.hid (K2.out.trans (keptBut.of_snd hg3))
      clear hhad hg hhas hg3 lt1 lt2
      go_wp2_with fail
      have LK : Hid (∀ w4, (∃ x, w4 = ext w3 x) → w4.cell? ⟨vb, 2, none⟩ = some (.map (some hb)) ∧ (Instr.lookup 61 (.map (some hb)) (.string s) false).run Tryz.prog w4 = .ok (.int .i64 (m + 1)) w4 ∧ vb < w4.heap.size) := Lib.hid fun w4 hx => by
        have V4 := V3.out.ext hx
        have l4 := V4.had.look elemI Tryz.underlying61 hsl
        rw [hfm.out] at l4
        exact ⟨V4.cells.2.2.1, l4, lt_of_heap V4.blk⟩
      have KK := Lib.hid (fun w4 (hx : ∃ x, w4 = ext w3 x) => rkey_any s (m + 1) w4 vb rb hb sb (n + 2) sec _ _ (V3.out.ext hx) HS.out HSEC.out)
      clear l1 l2 c0 c1 c2 c3 hvb d0 d1 d2 d3 hvb2 hput hput3 NM V1 V2
      refine wp_region_slots (frRm vb sb s (.bool false) (.bool true) (.pointer (some ⟨vb, 0, none⟩)) (.pointer (some ⟨vb, 0, none⟩)) (.pointer (some ⟨vb, 2, none⟩)) (.map (some hb)) (.string s) (.int .i64 m) (.int .i64 (m + 1)) (.pointer (some ⟨vb, 0, none⟩)) (.pointer (some ⟨vb, 0, none⟩)) (.pointer (some ⟨vb, 3, none⟩)) (.map (some sb)) (.string s)) dstRm (fun k => if k = 4 then .int .i64 0 else if k = 5 then .string ⟨#[]⟩ else if k = 6 then .int .i64 0 else undef) (laysRm vb hb s (m + 1) ⟨(keyB sec s (m + 1)).toArray⟩) (fun L g w => ∃ x, w = ext w3 x) (fun w w' => ∃ x, w' = ext w x) (by kernel_rfl) (by kernel_rfl) rfl ?_ (by kernel_rfl) (ext_refl _) ?_ ?_
      · exact fun j v w w' h hr => by unfold laysRm at hr ⊢; split at hr <;> exact hr
      · refine ⟨?_, ?_, ?_, ?_, ?_, ?_, ?_, ?_, ?_, ?_, ?_, ?_, ?_, ?_, ?_, ?_, ?_, ?_, trivial⟩
        all_goals (intro L gs w1 hLi hdeps hR hC; refine ends_of fun Q hQ => ?_)
        · have HQ := fun (a' : Act) (va : Value) (w' : World) (h1 : a' = frRm vb sb s (.bool false) (.bool true) (.pointer (some ⟨vb, 0, none⟩)) (.pointer (some ⟨vb, 0, none⟩)) (.pointer (some ⟨vb, 2, none⟩)) (.map (some hb)) (.string s) (.int .i64 m) (.int .i64 (m + 1)) (.pointer (some ⟨vb, 0, none⟩)) (.pointer (some ⟨vb, 0, none⟩)) (.pointer (some ⟨vb, 3, none⟩)) (.map (some sb)) (.string s) (upd1 gs 29 va)) h2 (h3 : laysRm vb hb s (m + 1) ⟨(keyB sec s (m + 1)).toArray⟩ 0 va w') h4 => hQ.out a' w' ⟨va, h1, h2, h3, h4⟩
          unfold frRm
          go_wp2_with fail
          exact HQ _ (.pointer (some ⟨vb, 0, none⟩)) _ (by simp only [frRm, upd1, Nat.reduceEqDiff, reduceIte]) (ext_refl _) rfl hC
        · have HQ := fun (a' : Act) (va : Value) (w' : World) (h1 : a' = frRm vb sb s (.bool false) (.bool true) (.pointer (some ⟨vb, 0, none⟩)) (.pointer (some ⟨vb, 0, none⟩)) (.pointer (some ⟨vb, 2, none⟩)) (.map (some hb)) (.string s) (.int .i64 m) (.int .i64 (m + 1)) (.pointer (some ⟨vb, 0, none⟩)) (.pointer (some ⟨vb, 0, none⟩)) (.pointer (some ⟨vb, 3, none⟩)) (.map (some sb)) (.string s) (upd1 gs 30 va)) h2 (h3 : laysRm vb hb s (m + 1) ⟨(keyB sec s (m + 1)).toArray⟩ 1 va w') h4 => hQ.out a' w' ⟨va, h1, h2, h3, h4⟩
          have r0 : gs 29 = .pointer (some ⟨vb, 0, none⟩) := hR 0 (hdeps ⟨0, .data⟩ (by simp) rfl)
          obtain ⟨c2, lk, lvb⟩ := LK.out w1 hC
          unfold frRm
          go_wp2_with fail
          exact HQ _ (.pointer (some ⟨vb, 0, none⟩)) _ (by simp only [frRm, upd1, r0, Nat.reduceEqDiff, reduceIte]) (ext_refl _) rfl hC
        · have HQ := fun (a' : Act) (va : Value) (w' : World) (h1 : a' = frRm vb sb s (.bool false) (.bool true) (.pointer (some ⟨vb, 0, none⟩)) (.pointer (some ⟨vb, 0, none⟩)) (.pointer (some ⟨vb, 2, none⟩)) (.map (some hb)) (.string s) (.int .i64 m) (.int .i64 (m + 1)) (.pointer (some ⟨vb, 0, none⟩)) (.pointer (some ⟨vb, 0, none⟩)) (.pointer (some ⟨vb, 3, none⟩)) (.map (some sb)) (.string s) (upd1 gs 31 va)) h2 (h3 : laysRm vb hb s (m + 1) ⟨(keyB sec s (m + 1)).toArray⟩ 2 va w') h4 => hQ.out a' w' ⟨va, h1, h2, h3, h4⟩
          have r1 : gs 30 = .pointer (some ⟨vb, 0, none⟩) := hR 1 (hdeps ⟨1, .data⟩ (by simp) rfl)
          unfold frRm
          go_wp2_with fail
          exact HQ _ (.pointer (some ⟨vb, 2, none⟩)) _ (by simp only [frRm, upd1, r1, Nat.reduceEqDiff, reduceIte]) (ext_refl _) rfl hC
        · have HQ := fun (a' : Act) (va : Value) (w' : World) (h1 : a' = frRm vb sb s (.bool false) (.bool true) (.pointer (some ⟨vb, 0, none⟩)) (.pointer (some ⟨vb, 0, none⟩)) (.pointer (some ⟨vb, 2, none⟩)) (.map (some hb)) (.string s) (.int .i64 m) (.int .i64 (m + 1)) (.pointer (some ⟨vb, 0, none⟩)) (.pointer (some ⟨vb, 0, none⟩)) (.pointer (some ⟨vb, 3, none⟩)) (.map (some sb)) (.string s) (upd1 gs 32 va)) h2 (h3 : laysRm vb hb s (m + 1) ⟨(keyB sec s (m + 1)).toArray⟩ 3 va w') h4 => hQ.out a' w' ⟨va, h1, h2, h3, h4⟩
          have r2 : gs 31 = .pointer (some ⟨vb, 2, none⟩) := hR 2 (hdeps ⟨2, .data⟩ (by simp) rfl)
          obtain ⟨c2, lk, lvb⟩ := LK.out w1 hC
          unfold frRm
          go_wp2_with fail
          exact HQ _ (.map (some hb)) _ (by simp only [frRm, upd1, r2, Nat.reduceEqDiff, reduceIte]) (ext_refl _) rfl hC
        · have HQ := fun (a' : Act) (va : Value) (w' : World) (h1 : a' = frRm vb sb s (.bool false) (.bool true) (.pointer (some ⟨vb, 0, none⟩)) (.pointer (some ⟨vb, 0, none⟩)) (.pointer (some ⟨vb, 2, none⟩)) (.map (some hb)) (.string s) (.int .i64 m) (.int .i64 (m + 1)) (.pointer (some ⟨vb, 0, none⟩)) (.pointer (some ⟨vb, 0, none⟩)) (.pointer (some ⟨vb, 3, none⟩)) (.map (some sb)) (.string s) (upd1 gs 33 va)) h2 (h3 : laysRm vb hb s (m + 1) ⟨(keyB sec s (m + 1)).toArray⟩ 4 va w') h4 => hQ.out a' w' ⟨va, h1, h2, h3, h4⟩
          unfold frRm
          go_wp2_with fail
          exact HQ _ (.string s) _ (by simp only [frRm, upd1, Nat.reduceEqDiff, reduceIte]) (ext_refl _) rfl hC
        · have HQ := fun (a' : Act) (va : Value) (w' : World) (h1 : a' = frRm vb sb s (.bool false) (.bool true) (.pointer (some ⟨vb, 0, none⟩)) (.pointer (some ⟨vb, 0, none⟩)) (.pointer (some ⟨vb, 2, none⟩)) (.map (some hb)) (.string s) (.int .i64 m) (.int .i64 (m + 1)) (.pointer (some ⟨vb, 0, none⟩)) (.pointer (some ⟨vb, 0, none⟩)) (.pointer (some ⟨vb, 3, none⟩)) (.map (some sb)) (.string s) (upd1 gs 34 va)) h2 (h3 : laysRm vb hb s (m + 1) ⟨(keyB sec s (m + 1)).toArray⟩ 5 va w') h4 => hQ.out a' w' ⟨va, h1, h2, h3, h4⟩
          have r3 : gs 32 = .map (some hb) := hR 3 (hdeps ⟨3, .data⟩ (by simp) rfl)
          have r4 : gs 33 = .string s := hR 4 (hdeps ⟨4, .data⟩ (by simp) rfl)
          obtain ⟨c2, lk, lvb⟩ := LK.out w1 hC
          unfold frRm
          go_wp2_with fail
          exact HQ _ (.int .i64 (m + 1)) _ (by simp only [frRm, upd1, r3, r4, Nat.reduceEqDiff, reduceIte]) (ext_refl _) rfl hC
        · have HQ := fun (a' : Act) (va : Value) (w' : World) (h1 : a' = frRm vb sb s (.bool false) (.bool true) (.pointer (some ⟨vb, 0, none⟩)) (.pointer (some ⟨vb, 0, none⟩)) (.pointer (some ⟨vb, 2, none⟩)) (.map (some hb)) (.string s) (.int .i64 m) (.int .i64 (m + 1)) (.pointer (some ⟨vb, 0, none⟩)) (.pointer (some ⟨vb, 0, none⟩)) (.pointer (some ⟨vb, 3, none⟩)) (.map (some sb)) (.string s) (upd1 gs 35 va)) h2 (h3 : laysRm vb hb s (m + 1) ⟨(keyB sec s (m + 1)).toArray⟩ 6 va w') h4 => hQ.out a' w' ⟨va, h1, h2, h3, h4⟩
          unfold frRm
          go_wp2_with fail
          exact HQ _ (.pointer (some ⟨vb, 0, none⟩)) _ (by simp only [frRm, upd1, Nat.reduceEqDiff, reduceIte]) (ext_refl _) rfl hC
        · have HQ := fun (a' : Act) (va : Value) (w' : World) (h1 : a' = frRm vb sb s (.bool false) (.bool true) (.pointer (some ⟨vb, 0, none⟩)) (.pointer (some ⟨vb, 0, none⟩)) (.pointer (some ⟨vb, 2, none⟩)) (.map (some hb)) (.string s) (.int .i64 m) (.int .i64 (m + 1)) (.pointer (some ⟨vb, 0, none⟩)) (.pointer (some ⟨vb, 0, none⟩)) (.pointer (some ⟨vb, 3, none⟩)) (.map (some sb)) (.string s) (upd1 gs 36 va)) h2 (h3 : laysRm vb hb s (m + 1) ⟨(keyB sec s (m + 1)).toArray⟩ 7 va w') h4 => hQ.out a' w' ⟨va, h1, h2, h3, h4⟩
          unfold frRm
          go_wp2_with fail
          exact HQ _ (.string s) _ (by simp only [frRm, upd1, Nat.reduceEqDiff, reduceIte]) (ext_refl _) rfl hC
        · have HQ := fun (a' : Act) (va : Value) (w' : World) (h1 : a' = frRm vb sb s (.bool false) (.bool true) (.pointer (some ⟨vb, 0, none⟩)) (.pointer (some ⟨vb, 0, none⟩)) (.pointer (some ⟨vb, 2, none⟩)) (.map (some hb)) (.string s) (.int .i64 m) (.int .i64 (m + 1)) (.pointer (some ⟨vb, 0, none⟩)) (.pointer (some ⟨vb, 0, none⟩)) (.pointer (some ⟨vb, 3, none⟩)) (.map (some sb)) (.string s) (upd1 gs 37 va)) h2 (h3 : laysRm vb hb s (m + 1) ⟨(keyB sec s (m + 1)).toArray⟩ 8 va w') h4 => hQ.out a' w' ⟨va, h1, h2, h3, h4⟩
          unfold frRm
          go_wp2_with fail
          exact HQ _ (.pointer (some ⟨vb, 0, none⟩)) _ (by simp only [frRm, upd1, Nat.reduceEqDiff, reduceIte]) (ext_refl _) rfl hC
        · have HQ := fun (a' : Act) (va : Value) (w' : World) (h1 : a' = frRm vb sb s (.bool false) (.bool true) (.pointer (some ⟨vb, 0, none⟩)) (.pointer (some ⟨vb, 0, none⟩)) (.pointer (some ⟨vb, 2, none⟩)) (.map (some hb)) (.string s) (.int .i64 m) (.int .i64 (m + 1)) (.pointer (some ⟨vb, 0, none⟩)) (.pointer (some ⟨vb, 0, none⟩)) (.pointer (some ⟨vb, 3, none⟩)) (.map (some sb)) (.string s) (upd1 gs 38 va)) h2 (h3 : laysRm vb hb s (m + 1) ⟨(keyB sec s (m + 1)).toArray⟩ 9 va w') h4 => hQ.out a' w' ⟨va, h1, h2, h3, h4⟩
          have r8 : gs 37 = .pointer (some ⟨vb, 0, none⟩) := hR 8 (hdeps ⟨8, .data⟩ (by simp) rfl)
          obtain ⟨c2, lk, lvb⟩ := LK.out w1 hC
          unfold frRm
          go_wp2_with fail
          exact HQ _ (.pointer (some ⟨vb, 0, none⟩)) _ (by simp only [frRm, upd1, r8, Nat.reduceEqDiff, reduceIte]) (ext_refl _) rfl hC
        · have HQ := fun (a' : Act) (va : Value) (w' : World) (h1 : a' = frRm vb sb s (.bool false) (.bool true) (.pointer (some ⟨vb, 0, none⟩)) (.pointer (some ⟨vb, 0, none⟩)) (.pointer (some ⟨vb, 2, none⟩)) (.map (some hb)) (.string s) (.int .i64 m) (.int .i64 (m + 1)) (.pointer (some ⟨vb, 0, none⟩)) (.pointer (some ⟨vb, 0, none⟩)) (.pointer (some ⟨vb, 3, none⟩)) (.map (some sb)) (.string s) (upd1 gs 39 va)) h2 (h3 : laysRm vb hb s (m + 1) ⟨(keyB sec s (m + 1)).toArray⟩ 10 va w') h4 => hQ.out a' w' ⟨va, h1, h2, h3, h4⟩
          have r9 : gs 38 = .pointer (some ⟨vb, 0, none⟩) := hR 9 (hdeps ⟨9, .data⟩ (by simp) rfl)
          unfold frRm
          go_wp2_with fail
          exact HQ _ (.pointer (some ⟨vb, 2, none⟩)) _ (by simp only [frRm, upd1, r9, Nat.reduceEqDiff, reduceIte]) (ext_refl _) rfl hC
        · have HQ := fun (a' : Act) (va : Value) (w' : World) (h1 : a' = frRm vb sb s (.bool false) (.bool true) (.pointer (some ⟨vb, 0, none⟩)) (.pointer (some ⟨vb, 0, none⟩)) (.pointer (some ⟨vb, 2, none⟩)) (.map (some hb)) (.string s) (.int .i64 m) (.int .i64 (m + 1)) (.pointer (some ⟨vb, 0, none⟩)) (.pointer (some ⟨vb, 0, none⟩)) (.pointer (some ⟨vb, 3, none⟩)) (.map (some sb)) (.string s) (upd1 gs 40 va)) h2 (h3 : laysRm vb hb s (m + 1) ⟨(keyB sec s (m + 1)).toArray⟩ 11 va w') h4 => hQ.out a' w' ⟨va, h1, h2, h3, h4⟩
          have r10 : gs 39 = .pointer (some ⟨vb, 2, none⟩) := hR 10 (hdeps ⟨10, .data⟩ (by simp) rfl)
          obtain ⟨c2, lk, lvb⟩ := LK.out w1 hC
          unfold frRm
          go_wp2_with fail
          exact HQ _ (.map (some hb)) _ (by simp only [frRm, upd1, r10, Nat.reduceEqDiff, reduceIte]) (ext_refl _) rfl hC
        · have HQ := fun (a' : Act) (va : Value) (w' : World) (h1 : a' = frRm vb sb s (.bool false) (.bool true) (.pointer (some ⟨vb, 0, none⟩)) (.pointer (some ⟨vb, 0, none⟩)) (.pointer (some ⟨vb, 2, none⟩)) (.map (some hb)) (.string s) (.int .i64 m) (.int .i64 (m + 1)) (.pointer (some ⟨vb, 0, none⟩)) (.pointer (some ⟨vb, 0, none⟩)) (.pointer (some ⟨vb, 3, none⟩)) (.map (some sb)) (.string s) (upd1 gs 41 va)) h2 (h3 : laysRm vb hb s (m + 1) ⟨(keyB sec s (m + 1)).toArray⟩ 12 va w') h4 => hQ.out a' w' ⟨va, h1, h2, h3, h4⟩
          unfold frRm
          go_wp2_with fail
          exact HQ _ (.string s) _ (by simp only [frRm, upd1, Nat.reduceEqDiff, reduceIte]) (ext_refl _) rfl hC
        · have HQ := fun (a' : Act) (va : Value) (w' : World) (h1 : a' = frRm vb sb s (.bool false) (.bool true) (.pointer (some ⟨vb, 0, none⟩)) (.pointer (some ⟨vb, 0, none⟩)) (.pointer (some ⟨vb, 2, none⟩)) (.map (some hb)) (.string s) (.int .i64 m) (.int .i64 (m + 1)) (.pointer (some ⟨vb, 0, none⟩)) (.pointer (some ⟨vb, 0, none⟩)) (.pointer (some ⟨vb, 3, none⟩)) (.map (some sb)) (.string s) (upd1 gs 42 va)) h2 (h3 : laysRm vb hb s (m + 1) ⟨(keyB sec s (m + 1)).toArray⟩ 13 va w') h4 => hQ.out a' w' ⟨va, h1, h2, h3, h4⟩
          have r11 : gs 40 = .map (some hb) := hR 11 (hdeps ⟨11, .data⟩ (by simp) rfl)
          have r12 : gs 41 = .string s := hR 12 (hdeps ⟨12, .data⟩ (by simp) rfl)
          obtain ⟨c2, lk, lvb⟩ := LK.out w1 hC
          unfold frRm
          go_wp2_with fail
          exact HQ _ (.int .i64 (m + 1)) _ (by simp only [frRm, upd1, r11, r12, Nat.reduceEqDiff, reduceIte]) (ext_refl _) rfl hC
        · have HQ := fun (a' : Act) (va : Value) (w' : World) (h1 : a' = frRm vb sb s (.bool false) (.bool true) (.pointer (some ⟨vb, 0, none⟩)) (.pointer (some ⟨vb, 0, none⟩)) (.pointer (some ⟨vb, 2, none⟩)) (.map (some hb)) (.string s) (.int .i64 m) (.int .i64 (m + 1)) (.pointer (some ⟨vb, 0, none⟩)) (.pointer (some ⟨vb, 0, none⟩)) (.pointer (some ⟨vb, 3, none⟩)) (.map (some sb)) (.string s) (upd1 gs 43 va)) h2 (h3 : laysRm vb hb s (m + 1) ⟨(keyB sec s (m + 1)).toArray⟩ 14 va w') h4 => hQ.out a' w' ⟨va, h1, h2, h3, h4⟩
          have r6 : gs 35 = .pointer (some ⟨vb, 0, none⟩) := hR 6 (hdeps ⟨6, .data⟩ (by simp) rfl)
          have r7 : gs 36 = .string s := hR 7 (hdeps ⟨7, .data⟩ (by simp) rfl)
          have r13 : gs 42 = .int .i64 (m + 1) := hR 13 (hdeps ⟨13, .data⟩ (by simp) rfl)
          unfold frRm
          go_wp2_with fail
          refine (KK.out w1 hC).mono ?_
          rintro _ w5 ⟨rfl, hx⟩
          go_wp2_with fail
          exact HQ _ (.string ⟨(keyB sec s (m + 1)).toArray⟩) _ (by simp only [frRm, upd1, r6, r7, r13, Nat.reduceEqDiff, reduceIte]) hx rfl (ext_trans hC hx)
        · have HQ := fun (a' : Act) (va : Value) (w' : World) (h1 : a' = frRm vb sb s (.bool false) (.bool true) (.pointer (some ⟨vb, 0, none⟩)) (.pointer (some ⟨vb, 0, none⟩)) (.pointer (some ⟨vb, 2, none⟩)) (.map (some hb)) (.string s) (.int .i64 m) (.int .i64 (m + 1)) (.pointer (some ⟨vb, 0, none⟩)) (.pointer (some ⟨vb, 0, none⟩)) (.pointer (some ⟨vb, 3, none⟩)) (.map (some sb)) (.string s) (upd1 gs 4 va)) h2 (h3 : laysRm vb hb s (m + 1) ⟨(keyB sec s (m + 1)).toArray⟩ 15 va w') h4 => hQ.out a' w' ⟨va, h1, h2, h3, h4⟩
          have r5 : gs 34 = .int .i64 (m + 1) := hR 5 (hdeps ⟨5, .data⟩ (by simp) rfl)
          unfold frRm
          go_wp2_with fail
          exact HQ _ (.int .i64 (m + 1)) _ (by simp only [frRm, upd1, r5, Nat.reduceEqDiff, reduceIte]) (ext_refl _) rfl hC
        · have HQ := fun (a' : Act) (va : Value) (w' : World) (h1 : a' = frRm vb sb s (.bool false) (.bool true) (.pointer (some ⟨vb, 0, none⟩)) (.pointer (some ⟨vb, 0, none⟩)) (.pointer (some ⟨vb, 2, none⟩)) (.map (some hb)) (.string s) (.int .i64 m) (.int .i64 (m + 1)) (.pointer (some ⟨vb, 0, none⟩)) (.pointer (some ⟨vb, 0, none⟩)) (.pointer (some ⟨vb, 3, none⟩)) (.map (some sb)) (.string s) (upd1 gs 5 va)) h2 (h3 : laysRm vb hb s (m + 1) ⟨(keyB sec s (m + 1)).toArray⟩ 16 va w') h4 => hQ.out a' w' ⟨va, h1, h2, h3, h4⟩
          have r14 : gs 43 = .string ⟨(keyB sec s (m + 1)).toArray⟩ := hR 14 (hdeps ⟨14, .data⟩ (by simp) rfl)
          unfold frRm
          go_wp2_with fail
          exact HQ _ (.string ⟨(keyB sec s (m + 1)).toArray⟩) _ (by simp only [frRm, upd1, r14, Nat.reduceEqDiff, reduceIte]) (ext_refl _) rfl hC
        · have HQ := fun (a' : Act) (va : Value) (w' : World) (h1 : a' = frRm vb sb s (.bool false) (.bool true) (.pointer (some ⟨vb, 0, none⟩)) (.pointer (some ⟨vb, 0, none⟩)) (.pointer (some ⟨vb, 2, none⟩)) (.map (some hb)) (.string s) (.int .i64 m) (.int .i64 (m + 1)) (.pointer (some ⟨vb, 0, none⟩)) (.pointer (some ⟨vb, 0, none⟩)) (.pointer (some ⟨vb, 3, none⟩)) (.map (some sb)) (.string s) (upd1 gs 6 va)) h2 (h3 : laysRm vb hb s (m + 1) ⟨(keyB sec s (m + 1)).toArray⟩ 17 va w') h4 => hQ.out a' w' ⟨va, h1, h2, h3, h4⟩
          unfold frRm
          go_wp2_with fail
          exact HQ _ (.int .i64 0) _ (by simp only [frRm, upd1, Nat.reduceEqDiff, reduceIte]) (ext_refl _) rfl hC
      intro L1 g1 w9 hall hR hC
      have r15 : g1 4 = .int .i64 (m + 1) := hR 15 (by decide)
      have r16 : g1 5 = .string ⟨(keyB sec s (m + 1)).toArray⟩ := hR 16 (by decide)
      have r17 : g1 6 = .int .i64 0 := hR 17 (by decide)
      have HC := Lib.hid hC
      clear hall hR hC
      unfold frRm
      rw [r15, r16, r17]
      go_wp2_with fail
      go_ret3
      exact ⟨rfl, V3.out.ext HC.out, K3.out.trans (keptBut.of_ext HC.out)⟩
end Go.Proofs.YtnmpchojhbmbmaaGreatDoor
