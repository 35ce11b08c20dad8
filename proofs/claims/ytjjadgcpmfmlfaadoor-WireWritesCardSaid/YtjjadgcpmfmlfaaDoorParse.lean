/- wire.Parse (the walk). -/
import Derived.Test.YtjjadgcpmfmlfaaDoorProg
import Derived.Test.YtjjadgcpmfmlfaaDoorParseL
namespace Go.Proofs.YtjjadgcpmfmlfaaDoor
open Go.RowKit

def zeroR : Rec := ⟨0, ⟨#[]⟩, 0, ⟨#[]⟩, ⟨#[]⟩⟩
def answP (s : ByteArray) : Value := if parseOK s = true then .tuple #[.agg (recV (parseR s)), .nilIface] else .tuple #[.agg (recV zeroR), errV 3]
set_option maxRecDepth 100000 in
set_option maxHeartbeats 4000000 in
theorem wparse_any (s : ByteArray) (w : World) (hs : s.size ≤ 1048576) (hR : Rounds w) :
    Calls Tryd.prog 33 #[.string s] w fun r w' => r = .returned (answP s) ∧ ∃ x, w' = ext w x := by
  have R := Lib.hid hR
  clear hR
  have ON := fun rb w h hR => one_any ⟨bs s, false⟩ (by rw [bs_length]; exact hs) rb w h hR
  have HA : answP s = if (okOne ⟨bs s, false⟩ && (oneL ⟨bs s, false⟩).2.2.s.isEmpty) = true then .tuple #[.agg (recV (oneL ⟨bs s, false⟩).2.1), .nilIface] else .tuple #[.agg (recV zeroR), errV 3] := rfl
  generalize okOne ⟨bs s, false⟩ = ok at ON HA
  generalize oneL ⟨bs s, false⟩ = o at ON HA
  obtain ⟨m, ⟨q, u, g, p, b⟩, ⟨s', b'⟩⟩ := o
  unfold recV at ON
  dsimp only at ON HA
  rw [HA]
  clear HA
  go_enter Tryd.func33, Tryd.ntmps33
  go_wp2_with fail
  have HZ : Hid ((w.alloc (.cells #[.int .i64 0, .string ⟨#[]⟩, .int .i64 0, .string ⟨#[]⟩, .string ⟨#[]⟩] 45)).heap[w.heap.size]? = some (.cells #[.int .i64 0, .string ⟨#[]⟩, .int .i64 0, .string ⟨#[]⟩, .string ⟨#[]⟩] 45 (0, 0))) := Lib.hid (heap_alloc_at _ _)
  have BZ := Lib.hid ((Below.refl w.heap.size w).alloc (Nat.le_refl _) (.cells #[.int .i64 0, .string ⟨#[]⟩, .int .i64 0, .string ⟨#[]⟩, .string ⟨#[]⟩] 45))
  have ez : (w.alloc (.cells #[.int .i64 0, .string ⟨#[]⟩, .int .i64 0, .string ⟨#[]⟩, .string ⟨#[]⟩] 45)).heap.size = w.heap.size + 1 := by simp
  generalize w.alloc (.cells #[.int .i64 0, .string ⟨#[]⟩, .int .i64 0, .string ⟨#[]⟩, .string ⟨#[]⟩] 45) = wz at HZ BZ ez ⊢
  have r1 : Hid (readerAt (wz.alloc (.cells #[.string s, .bool false] 125)) (w.heap.size + 1) ⟨bs s, false⟩) := Lib.hid (by rw [← ez]; exact heap_alloc_at wz _)
  have HZ1 := Lib.hid ((heap_alloc_old wz (.cells #[.string s, .bool false] 125) (lt_of_heap HZ.out)).trans HZ.out)
  have B1 := Lib.hid (BZ.out.alloc BZ.out.size (.cells #[.string s, .bool false] 125))
  have R1 := Lib.hid (Rounds_ext R.out (ext_of B1.out))
  generalize wz.alloc (.cells #[.string s, .bool false] 125) = w1 at r1 HZ1 B1 R1 ⊢
  clear HZ BZ ez wz R
  refine (ON _ _ r1.out R1.out).mono ?_
  rintro _ w2 ⟨rfl, r2, g2⟩
  have HZ2 := Lib.hid ((g2.block w.heap.size (lt_of_heap HZ1.out) (by intro e; injection e with e; omega)).trans HZ1.out)
  have B2 := Lib.hid (B1.out.grown g2 B1.out.size (by rintro _ ⟨⟩; exact Nat.le_succ _))
  have r2 := Lib.hid r2
  clear g2 HZ1 B1 R1 r1 ON
  have HZ3 := Lib.hid ((heap_alloc_old w2 (.cells #[.int .i64 q, .string u, .int .i64 g, .string p, .string b] 45) (lt_of_heap HZ2.out)).trans HZ2.out)
  have r3 : Hid (readerAt (w2.alloc (.cells #[.int .i64 q, .string u, .int .i64 g, .string p, .string b] 45)) (w.heap.size + 1) ⟨s', b'⟩) := Lib.hid ((heap_alloc_old w2 (.cells #[.int .i64 q, .string u, .int .i64 g, .string p, .string b] 45) (lt_of_heap (show w2.heap[w.heap.size + 1]? = _ from r2.out))).trans r2.out)
  have E3 := Lib.hid (heap_alloc_at w2 (.cells #[.int .i64 q, .string u, .int .i64 g, .string p, .string b] 45))
  have B3 := Lib.hid (B2.out.alloc B2.out.size (.cells #[.int .i64 q, .string u, .int .i64 g, .string p, .string b] 45))
  obtain ⟨z0, z1, z2, z3, z4⟩ := rec_cells (r := zeroR) HZ3.out
  obtain ⟨e0, e1, e2, e3, e4⟩ := rec_cells (r := ⟨q, u, g, p, b⟩) E3.out
  have fz := free_of_heap HZ3.out
  have q0 := (reader_cells r3.out).1
  unfold zeroR at z0 z1 z2 z3 z4
  dsimp only at z0 z1 z2 z3 z4 e0 e1 e2 e3 e4 q0
  clear HZ2 B2 r2
  cases ok with
  | false =>
    go_wp2_with fail
    obtain ⟨S5, U5⟩ := set5r (by rfl) HZ3.out zeroR
    unfold zeroR at S5 U5
    dsimp only at S5 U5
    exact ret_cells rfl rfl S5 Tryd.underlying45 rfl (by kernel_rfl) rfl rfl ⟨rfl, ext_of (B3.out.grown U5 B3.out.size (by rintro _ ⟨⟩; exact Nat.le_refl _))⟩
  | true =>
    have hss : (mkS s').toList = s' := by rw [ByteArray.toList_eq]; rfl
    cases s' with
    | nil =>
      go_wp2_with fail
      obtain ⟨S5, U5⟩ := set5r (by rfl) HZ3.out ⟨q, u, g, p, b⟩
      dsimp only at S5 U5
      exact ret_cells rfl rfl S5 Tryd.underlying45 rfl (by kernel_rfl) rfl rfl ⟨rfl, ext_of (B3.out.grown U5 B3.out.size (by rintro _ ⟨⟩; exact Nat.le_refl _))⟩
    | cons c t =>
      go_wp2_with fail
      obtain ⟨S5, U5⟩ := set5r (by rfl) HZ3.out zeroR
      unfold zeroR at S5 U5
      dsimp only at S5 U5
      exact ret_cells rfl rfl S5 Tryd.underlying45 rfl (by kernel_rfl) rfl rfl ⟨rfl, ext_of (B3.out.grown U5 B3.out.size (by rintro _ ⟨⟩; exact Nat.le_refl _))⟩
end Go.Proofs.YtjjadgcpmfmlfaaDoor
