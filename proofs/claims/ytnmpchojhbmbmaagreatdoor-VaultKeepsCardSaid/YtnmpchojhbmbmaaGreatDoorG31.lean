/- VaultKeeps: both vaults in one world, and what each call leaves. -/
import Derived.Test.YtnmpchojhbmbmaaGreatDoorProg
import Derived.Test.YtnmpchojhbmbmaaGreatDoorG27
import Derived.Test.YtnmpchojhbmbmaaGreatDoorG28
import Derived.Test.YtnmpchojhbmbmaaGreatDoorG29
import Derived.Test.YtnmpchojhbmbmaaGreatDoorG30
namespace Go.Proofs.YtnmpchojhbmbmaaGreatDoor
open Go.RowKit

theorem Rounds_low {w0 w : World} (h : Rounds w0) (hb : Below w0.heap.size w0 w) : Rounds w := Rounds_of h (fun _ hk => hb.block _ hk) hb.size
theorem ErrT_low {w0 w : World} (h : ErrT w0) (hb : Below w0.heap.size w0 w) : ErrT w := ErrT_of h (fun _ hk => hb.block _ hk)
/-- Both vaults: the document's blocks lie ahead of the program's. -/
structure vkI (w0 : World) (vb mb tb wb rb hb sb : Nat) (sec : ByteArray) (n : Nat) (M : List (ByteArray × I64)) (T : List (ByteArray × Txt)) (H : List (ByteArray × I64)) (B : List (ByteArray × Bool)) (w : World) : Prop where
  v : vaultAt w vb mb tb n sec M T
  r : rvaultAt w wb rb hb sb n sec H B
  b : Below w0.heap.size w0 w
  l1 : w0.heap.size ≤ wb ∧ w0.heap.size ≤ rb ∧ w0.heap.size ≤ hb ∧ w0.heap.size ≤ sb
  l2 : ∃ z, (wb < z ∧ rb < z ∧ hb < z ∧ sb < z) ∧ z ≤ vb ∧ z ≤ mb ∧ z ≤ tb
section
variable {w0 w w' : World} {vb mb tb wb rb hb sb n n' : Nat} {sec : ByteArray} {M M' H H' : List (ByteArray × I64)} {T T' : List (ByteArray × Txt)} {B B' : List (ByteArray × Bool)}
theorem vkI.ext (h : vkI w0 vb mb tb wb rb hb sb sec n M T H B w) (hx : ∃ x, w' = ext w x) : vkI w0 vb mb tb wb rb hb sb sec n M T H B w' :=
  ⟨h.v.ext hx, h.r.ext hx, h.b.trans ((ext_iff.1 hx).mono h.b.size), h.l1, h.l2⟩
theorem vkI.mono (h : vkI w0 vb mb tb wb rb hb sb sec n M T H B w) (hn : n ≤ n') : vkI w0 vb mb tb wb rb hb sb sec n' M T H B w :=
  ⟨h.v.mono hn, h.r.mono hn, h.b, h.l1, h.l2⟩
theorem keptBut.below {w0 w w' : World} {a b : Nat} (h : Below w0.heap.size w0 w) (k : keptBut w w' a b) (ha : w0.heap.size ≤ a) (hb : w0.heap.size ≤ b) : Below w0.heap.size w0 w' :=
  ⟨k.os.trans h.os, k.tape.trans h.tape, k.output.trans h.output, Nat.le_trans h.size k.size, fun j hj => (k.block j (Nat.lt_of_lt_of_le hj h.size) (by omega) (by omega)).trans (h.block j hj)⟩
/-- The program's vault has turned. -/
theorem vkI.prog (h : vkI w0 vb mb tb wb rb hb sb sec n M T H B w) (k : keptBut w w' mb tb) (hn : n ≤ n') (hv : vaultAt w' vb mb tb n' sec M' T') : vkI w0 vb mb tb wb rb hb sb sec n' M' T' H B w' := by
  obtain ⟨a1, a2, a3, a4⟩ := h.l1
  obtain ⟨z, ⟨z1, z2, z3, z4⟩, z5, z6, z7⟩ := h.l2
  obtain ⟨s1, s2, s3, s4⟩ := h.r.lt
  exact ⟨hv, (h.r.same (k.block _ s1 (by omega) (by omega)) (k.block _ s2 (by omega) (by omega)) (k.block _ s3 (by omega) (by omega)) (k.block _ s4 (by omega) (by omega))).mono hn, k.below h.b (by omega) (by omega), h.l1, h.l2⟩
/-- The document's vault has turned. -/
theorem vkI.doc (h : vkI w0 vb mb tb wb rb hb sb sec n M T H B w) (k : keptBut w w' hb sb) (hn : n ≤ n') (hr : rvaultAt w' wb rb hb sb n' sec H' B') : vkI w0 vb mb tb wb rb hb sb sec n' M T H' B' w' := by
  obtain ⟨a1, a2, a3, a4⟩ := h.l1
  obtain ⟨z, ⟨z1, z2, z3, z4⟩, z5, z6, z7⟩ := h.l2
  have s1 := lt_of_heap h.v.blk
  have s2 := h.v.many.lt
  have s3 := h.v.there.lt
  exact ⟨(h.v.same (k.block _ s1 (by omega) (by omega)) (k.block _ s2 (by omega) (by omega)) (k.block _ s3 (by omega) (by omega))).mono hn, hr, k.below h.b (by omega) (by omega), h.l1, h.l2⟩
/-- The act that is looked at. -/
structure vkX (w0 : World) (vb mb tb wb rb hb sb : Nat) (sec : ByteArray) (ab : Nat) (x : ActD) (n : Nat) (M : List (ByteArray × I64)) (T : List (ByteArray × Txt)) (H : List (ByteArray × I64)) (B : List (ByteArray × Bool)) (w : World) : Prop where
  i : vkI w0 vb mb tb wb rb hb sb sec n M T H B w
  a : w.heap[ab]? = some (.cells #[.int .i64 x.what, .int .i64 x.gen, .string x.subject] 37 (0, 0))
  ne : ab ≠ mb ∧ ab ≠ tb ∧ ab ≠ hb ∧ ab ≠ sb
theorem vkI.act (h : vkI w0 vb mb tb wb rb hb sb sec n M T H B w) (x : ActD) : vkX w0 vb mb tb wb rb hb sb sec w.heap.size x n M T H B (w.alloc (.cells #[.int .i64 x.what, .int .i64 x.gen, .string x.subject] 37)) := by
  have s2 := h.v.many.lt
  have s3 := h.v.there.lt
  obtain ⟨r1, r2, r3, r4⟩ := h.r.lt
  exact ⟨h.ext (ext_alloc _ (ext_refl w)), heap_alloc_at _ _, by omega, by omega, by omega, by omega⟩
variable {ab : Nat} {x : ActD}
theorem vkX.ext (h : vkX w0 vb mb tb wb rb hb sb sec ab x n M T H B w) (hx : ∃ x, w' = ext w x) : vkX w0 vb mb tb wb rb hb sb sec ab x n M T H B w' :=
  ⟨h.i.ext hx, ((ext_iff.1 hx).block _ (lt_of_heap h.a)).trans h.a, h.ne⟩
theorem vkX.prog (h : vkX w0 vb mb tb wb rb hb sb sec ab x n M T H B w) (k : keptBut w w' mb tb) (hn : n ≤ n') (hv : vaultAt w' vb mb tb n' sec M' T') : vkX w0 vb mb tb wb rb hb sb sec ab x n' M' T' H B w' :=
  ⟨h.i.prog k hn hv, (k.block _ (lt_of_heap h.a) h.ne.1 h.ne.2.1).trans h.a, h.ne⟩
theorem vkX.doc (h : vkX w0 vb mb tb wb rb hb sb sec ab x n M T H B w) (k : keptBut w w' hb sb) (hn : n ≤ n') (hr : rvaultAt w' wb rb hb sb n' sec H' B') : vkX w0 vb mb tb wb rb hb sb sec ab x n' M T H' B' w' :=
  ⟨h.i.doc k hn hr, (k.block _ (lt_of_heap h.a) h.ne.2.2.1 h.ne.2.2.2).trans h.a, h.ne⟩
theorem vkX.cells (h : vkX w0 vb mb tb wb rb hb sb sec ab x n M T H B w) : w.cell? ⟨ab, 0, none⟩ = some (.int .i64 x.what) ∧ w.cell? ⟨ab, 1, none⟩ = some (.int .i64 x.gen) ∧ w.cell? ⟨ab, 2, none⟩ = some (.string x.subject) ∧ ab < w.heap.size :=
  ⟨by rw [cell_in, h.a]; rfl, by rw [cell_in, h.a]; rfl, by rw [cell_in, h.a]; rfl, lt_of_heap h.a⟩
theorem vkX.vmake (h : vkX w0 vb mb tb wb rb hb sb sec ab x n M T H B w) (hR : Rounds w0) (s : ByteArray) (hs : s.size ≤ 1048576) (hsec : sec.size ≤ 1048576) (hn : n ≤ 1000000) (hm : 0 ≤ hadM s M ∧ hadM s M < 1000000) :
    Calls Tryz.prog 10 #[.pointer (some ⟨vb, 0, none⟩), .string s] w fun r w' => r = .returned (makeV sec s (hadM s M) (findS s T)) ∧ vkX w0 vb mb tb wb rb hb sb sec ab x (n + 2) (makeM s M (findS s T)) (makeT sec s M T) H B w' := by
  have h0 := hR.1
  have hmb : 0 ≠ mb := by
    obtain ⟨a1, _⟩ := h.i.l1
    obtain ⟨z, ⟨z1, _⟩, _, z6, _⟩ := h.i.l2
    omega
  exact (vmake_any s w vb mb tb n sec M T h.i.v hs hsec hn hm (Rounds_low hR h.i.b) hmb).mono fun _ _ ⟨h1, h2, h3⟩ => ⟨h1, h.prog h3 (by omega) h2⟩
theorem vkX.rmake (h : vkX w0 vb mb tb wb rb hb sb sec ab x n M T H B w) (s : ByteArray) (hs : s.size ≤ 1048576) (hsec : sec.size ≤ 1048576) (hn : n ≤ 1000000) (hm : 0 ≤ hadM s H ∧ hadM s H < 1000000) :
    Calls Tryz.prog 9 #[.pointer (some ⟨wb, 0, none⟩), .string s] w fun r w' => r = .returned (rmakeV sec s (hadM s H) ((findS s B).getD false)) ∧ vkX w0 vb mb tb wb rb hb sb sec ab x (n + 2) M T (rmakeH s H ((findS s B).getD false)) (rmakeB s B ((findS s B).getD false)) w' :=
  (rvmake_any s w wb rb hb sb n sec H B h.i.r hs hsec hn hm).mono fun _ _ ⟨h1, h2, h3⟩ => ⟨h1, h.doc h3 (by omega) h2⟩
theorem vkX.vforget (h : vkX w0 vb mb tb wb rb hb sb sec ab x n M T H B w) (s : ByteArray) (hs : s.size ≤ maxLen) :
    Calls Tryz.prog 11 #[.pointer (some ⟨vb, 0, none⟩), .string s] w fun r w' => r = .returned (if (findS s T).isSome = true then .nilIface else errV 8) ∧ vkX w0 vb mb tb wb rb hb sb sec ab x n M (if (findS s T).isSome = true then delS s T else T) H B w' :=
  (vforget_any s w vb mb tb n sec M T h.i.v hs).mono fun _ _ ⟨h1, h2, h3⟩ => ⟨h1, h.prog (keptBut.of_snd h3) (Nat.le_refl _) h2⟩
theorem vkX.rforget (h : vkX w0 vb mb tb wb rb hb sb sec ab x n M T H B w) (s : ByteArray) (hs : s.size ≤ maxLen) (hn : n < maxLen) :
    Calls Tryz.prog 12 #[.pointer (some ⟨wb, 0, none⟩), .string s] w fun r w' => r = .returned (.int .i64 (if (findS s B).getD false = true then 0 else 8)) ∧ vkX w0 vb mb tb wb rb hb sb sec ab x (n + 1) M T H (if (findS s B).getD false = true then putS s false B else B) w' :=
  (rvforget_any s w wb rb hb sb n sec H B h.i.r hs hn h.i.r.ner.2).mono fun _ _ ⟨h1, h2, h3⟩ => ⟨h1, h.doc (keptBut.of_snd h3) (by omega) h2⟩
theorem vkX.vkey (h : vkX w0 vb mb tb wb rb hb sb sec ab x n M T H B w) (s : ByteArray) (g : Int) (hs : s.size ≤ maxLen) :
    Calls Tryz.prog 14 #[.pointer (some ⟨vb, 0, none⟩), .string s, .int .i64 g] w fun r w' => r = .returned (keyV (findS s T) (hadM s M) g) ∧ w = w' := vkey_any s g w vb mb tb n sec M T h.i.v hs
theorem vkX.rkey (h : vkX w0 vb mb tb wb rb hb sb sec ab x n M T H B w) (s : ByteArray) (g : Int) (hs : s.size ≤ 1048576) (hsec : sec.size ≤ 1048576) :
    Calls Tryz.prog 13 #[.pointer (some ⟨wb, 0, none⟩), .string s, .int .i64 g] w fun r w' => r = .returned (rkeyV sec s ((findS s B).getD false) (hadM s H) g) ∧ ∃ x, w' = Go.Proofs.YtnmpchojhbmbmaaGreatDoor.ext w x := rvkey_any s g w wb rb hb sb n sec H B h.i.r hs hsec
/-- The texts that both Subjects are. -/
def subjL (T : List (ByteArray × Txt)) : List ByteArray := ((T.map fun p => txt p.1).mergeSort fun x y => decide (x ≤ y)).map fun u => ⟨u.toArray⟩
theorem subjL_len (h : vkX w0 vb mb tb wb rb hb sb sec ab x n M T H B w) : (subjL T).length ≤ n := by
  unfold subjL; rw [List.length_map, List.length_mergeSort, List.length_map]; exact h.i.v.there.len_le
theorem vkX.vsubj (h : vkX w0 vb mb tb wb rb hb sb sec ab x n M T H B w) (hn : n ≤ 1000000) :
    Calls Tryz.prog 16 #[.pointer (some ⟨vb, 0, none⟩)] w fun r w' => (∃ v, r = .returned v ∧ txS w' v (subjL T)) ∧ ∃ x, w' = Go.Proofs.YtnmpchojhbmbmaaGreatDoor.ext w x :=
  (subjects_raw w vb mb tb n sec M T h.i.v (by omega)).mono fun _ _ ⟨v, ss, h1, h2, h3, h4, h5⟩ => ⟨⟨v, h1, by
    unfold subjL
    rw [← merge_same h2]
    exact txS_row (List.length_mergeSort _).symm h4⟩, ext_of h5⟩
theorem vkX.rsubj {k : Int} (h : vkX w0 vb mb tb wb rb hb sb sec ab x n M T H B w) (hrel : relV sec k M T B) (hn : n ≤ 1000000) :
    Calls Tryz.prog 17 #[.pointer (some ⟨wb, 0, none⟩)] w fun r w' => (∃ v, r = .returned v ∧ txS w' v (subjL T)) ∧ ∃ x, w' = Go.Proofs.YtnmpchojhbmbmaaGreatDoor.ext w x :=
  (rsubjects_any w wb rb hb sb n sec H B h.i.r hn).mono fun _ _ ⟨v, ss, h1, h2, h3, h4, h5⟩ => ⟨⟨v, h1, by
    unfold subjL
    rw [← hrel.subjects h.i.v.there.once h2 h3]
    exact txS_row (List.length_mergeSort _).symm h4⟩, ext_of h5⟩
end
end Go.Proofs.YtnmpchojhbmbmaaGreatDoor
