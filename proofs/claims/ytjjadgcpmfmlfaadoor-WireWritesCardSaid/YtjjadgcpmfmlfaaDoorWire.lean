/- feed.Mark, package wire: Right, take, byte (the walks). -/
import Derived.Test.YtjjadgcpmfmlfaaDoorProg
import Derived.Test.YtjjadgcpmfmlfaaDoorName
import Derived.Test.YtjjadgcpmfmlfaaDoorEvRight
import Derived.Test.YtjjadgcpmfmlfaaDoorMark
import Derived.Test.YtjjadgcpmfmlfaaDoorWireL
namespace Go.Proofs.YtjjadgcpmfmlfaaDoor
open Go.RowKit

/-- A record's cells. -/
def recV (r : Rec) : Array Value := #[.int .i64 r.seq, .string r.subject, .int .i64 r.gen, .string r.prev, .string r.body]
def seqS (n : Int) : ByteArray := ⟨(numB n).toArray⟩
/-- A record's mark. -/
def mkB (r : Rec) : List UInt8 := markB 114 [seqS r.seq, r.subject, seqS r.gen, r.prev, r.body]
theorem mkB_length (r : Rec) : (mkB r).length = 16 := by unfold mkB markB; rw [List.length_take, sumB_length]; omega
theorem msg5 (k : UInt8) (a b c d e : ByteArray) : (markMsg k [a, b, c, d, e]).length = 41 + a.size + b.size + c.size + d.size + e.size := by
  have n8 : ∀ n : Int, (numB n).length = 8 := fun n => numTo_length _ _
  have hl : ∀ s : ByteArray, s.data.toList.length = s.size := fun s => by rw [Array.length_toList]; rfl
  unfold markMsg
  simp only [List.length_cons, List.length_nil, markTo, List.length_append, n8, hl, List.getD_eq_getElem?_getD]
  simp
  omega
theorem texts5 (w : World) (a b c d e : ByteArray) (t : TypeId) : textsAt (w.alloc (.cells #[.string a, .string b, .string c, .string d, .string e] t)) (some ⟨w.heap.size, 0, none⟩) [a, b, c, d, e] := by
  intro j u hj
  refine ⟨w.heap.size, 0, rfl, by simp, ?_⟩
  rw [Nat.zero_add, World.cell?_alloc_new]
  match j, hj with
  | 0, hj => cases hj; rfl
  | 1, hj => cases hj; rfl
  | 2, hj => cases hj; rfl
  | 3, hj => cases hj; rfl
  | 4, hj => cases hj; rfl
  | (j + 5), hj => simp at hj
theorem rec_cells {w : World} {b : Nat} {r : Rec} {t : TypeId} {f : Nat × Nat} (h : w.heap[b]? = some (.cells (recV r) t f)) :
    w.cell? ⟨b, 0, none⟩ = some (.int .i64 r.seq) ∧ w.cell? ⟨b, 1, none⟩ = some (.string r.subject) ∧ w.cell? ⟨b, 2, none⟩ = some (.int .i64 r.gen) ∧ w.cell? ⟨b, 3, none⟩ = some (.string r.prev) ∧ w.cell? ⟨b, 4, none⟩ = some (.string r.body) := by
  refine ⟨?_, ?_, ?_, ?_, ?_⟩ <;> (rw [cell_in, h]; rfl)

set_option maxRecDepth 100000 in
set_option maxHeartbeats 1000000 in
theorem fmark_any (r : Rec) (w : World) (hs : r.subject.size + r.prev.size + r.body.size ≤ 140737488350000) (hR : Rounds w) :
    Calls Tryd.prog 82 #[.agg (recV r)] w fun e w' => e = .returned (.string ⟨(mkB r).toArray⟩) ∧ ∃ x, w' = ext w x := by
  have R := Lib.hid hR
  clear hR
  have HM : Hid (mkB r = markB 114 [seqS r.seq, r.subject, seqS r.gen, r.prev, r.body]) := Lib.hid rfl
  have hlen : (markMsg 114 [seqS r.seq, r.subject, seqS r.gen, r.prev, r.body]).length ≤ 140737488355000 := by
    rw [msg5]
    have h8 : ∀ n, (seqS n).size = 8 := fun n => by show (numB n).toArray.size = 8; rw [List.size_toArray]; exact numTo_length _ _
    rw [h8, h8]; omega
  generalize mkB r = M at HM
  obtain ⟨q, s, g, p, b⟩ := r
  unfold recV
  dsimp only at HM hlen ⊢
  go_enter Tryd.func82, Tryd.ntmps82
  go_wp2_with fail
  have H1 := Lib.hid (heap_alloc_at w (.cells #[.int .i64 q, .string s, .int .i64 g, .string p, .string b] 45))
  have X1 := Lib.hid (ext_alloc (.cells #[.int .i64 q, .string s, .int .i64 g, .string p, .string b] 45) (ext_refl w))
  generalize w.alloc (.cells #[.int .i64 q, .string s, .int .i64 g, .string p, .string b] 45) = w1 at H1 X1 ⊢
  obtain ⟨c0, c1, c2, c3, c4⟩ := rec_cells (r := ⟨q, s, g, p, b⟩) H1.out
  dsimp only at c0 c1 c2 c3 c4
  have lw := lt_of_heap H1.out
  refine wp_region_tail 12 (by kernel_rfl) (by kernel_rfl) ?_
  simp only [List.take_succ_cons, List.take_zero, List.drop_succ_cons, List.drop_zero]
  repeat (go_big_quiet_step ((go_at_call 24; refine (num_any _ _).mono ?_; rintro _ _ ⟨rfl, hx⟩; exact ⟨rfl, ext_trans ⟨_, rfl⟩ hx⟩)))
  refine wpQuiet_nil ?_
  rintro _ ⟨x, rfl⟩
  have X2 := Lib.hid (ext_trans X1.out ⟨x, rfl⟩)
  generalize ext w1 x = w2 at X2 ⊢
  clear H1 X1 c0 c1 c2 c3 c4 lw
  have hT := texts5 w2 (seqS q) s (seqS g) p b 9
  have X3 := Lib.hid (ext_alloc (.cells #[.string (seqS q), .string s, .string (seqS g), .string p, .string b] 9) X2.out)
  have R3 := Rounds_ext R.out X3.out
  unfold seqS at hT X3 R3 hlen HM
  go_wp2_with fail
  refine (mark_any 114 114 rfl _ _ 5 rfl 5 _ hT hlen R3).mono ?_
  rintro _ w4 ⟨rfl, hx⟩
  have X4 := Lib.hid (ext_trans X3.out hx)
  clear hx hT X3 R3 X2
  rw [← HM.out]
  go_wp2_with fail
  go_ret
  exact ⟨rfl, X4.out⟩

/-- Whether a record may be written. -/
def fitB (r : Rec) : Bool := decide ((1 : Int) ≤ r.seq) && decide (r.seq ≤ 100) && nameB r.subject.data.toList && decide ((0 : Int) ≤ r.gen) && decide (r.gen ≤ 100) && decide ((r.prev.size : Int) = 16) && decide ((r.body.size : Int) ≤ 416)
theorem fits_of {r : Rec} (h : fitB r = true) : fits r := by
  unfold fitB at h
  simp only [Bool.and_eq_true, decide_eq_true_eq] at h
  obtain ⟨⟨⟨⟨⟨⟨h1, h2⟩, h3⟩, h4⟩, h5⟩, h6⟩, h7⟩ := h
  have := nameB_size h3
  unfold fits; omega
set_option maxRecDepth 100000 in
set_option maxHeartbeats 1000000 in
theorem wright_any (r : Rec) (w : World) (hs : r.subject.size ≤ 1048576) :
    Calls Tryd.prog 35 #[.agg (recV r)] w (Res (fitB r) w) := by
  obtain ⟨q, s, g, p, b⟩ := r
  unfold recV fitB
  dsimp only at hs ⊢
  have NA := fun w => name_any s w (by omega)
  generalize nameB s.data.toList = nb at NA ⊢
  go_enter Tryd.func35, Tryd.ntmps35
  go_wp2_with fail
  all_goals (first | (go_ret; exact ⟨by simp_all <;> (intros; omega), ext_alloc _ (ext_refl w)⟩) | skip)
  have H1 := Lib.hid (heap_alloc_at w (.cells #[.int .i64 q, .string s, .int .i64 g, .string p, .string b] 45))
  have X1 := Lib.hid (ext_alloc (.cells #[.int .i64 q, .string s, .int .i64 g, .string p, .string b] 45) (ext_refl w))
  generalize w.alloc (.cells #[.int .i64 q, .string s, .int .i64 g, .string p, .string b] 45) = w1 at H1 X1 ⊢
  refine (NA _).mono ?_
  rintro _ w2 ⟨rfl, hx⟩
  have H2 := Lib.hid (((ext_iff.1 hx).block _ (lt_of_heap H1.out)).trans H1.out)
  have X2 := Lib.hid (ext_trans X1.out hx)
  clear hx H1 X1
  obtain ⟨c0, c1, c2, c3, c4⟩ := rec_cells (r := ⟨q, s, g, p, b⟩) H2.out
  dsimp only at c0 c1 c2 c3 c4
  cases nb with
  | false =>
    go_wp2_with fail
    go_ret
    exact ⟨by simp, X2.out⟩
  | true =>
    go_wp2_with fail
    all_goals (go_ret; exact ⟨by simp_all <;> (intros; omega), X2.out⟩)
end Go.Proofs.YtjjadgcpmfmlfaaDoor
