/- wire.Write (the walk). -/
import Derived.Test.YtnkmckdefiblhaaGreatDoorProg
import Derived.Test.YtnkmckdefiblhaaGreatDoorG10
import Derived.Test.YtnkmckdefiblhaaGreatDoorG9
import Derived.Test.YtnkmckdefiblhaaGreatDoorG12
namespace Go.Proofs.YtnkmckdefiblhaaGreatDoor
open Go.RowKit
/-- The frame of wire.Write's fourth region. -/
def frWW (q : Int) (s : ByteArray) (g0 : Int) (p b : ByteArray) (b0 : Nat) (g : Nat → Value) : Act := { tmps := #[(.agg #[.int .i64 q, .string s, .int .i64 g0, .string p, .string b]), .pointer (some ⟨b0, 0, none⟩), g 2, g 3, .int .i64 b.size, (.agg #[.int .i64 q, .string s, .int .i64 g0, .string p, .string b]), .bool true, .bool false, undef, .pointer (some ⟨b0, 4, none⟩), .string b, .int .i64 b.size, g 12, g 13, g 14, g 15, g 16, g 17, g 18, g 19, g 20, g 21, g 22, g 23, g 24, g 25, g 26, g 27, g 28, g 29, g 30, g 31, g 32, g 33, g 34, g 35, g 36, g 37, g 38, g 39, g 40, g 41, g 42, g 43, g 44, g 45, g 46], defers := [] }
def dstWW (i : Nat) : Nat := ([12, 13, 14, 15, 16, 17, 18, 19, 20, 21, 22, 23, 24, 25, 26, 27, 28, 29, 30, 31, 32, 33, 34, 35, 36, 37, 38, 39, 40, 41, 42, 43, 44, 45, 46, 2, 3] : List Nat).getD i (2000 + i)
/-- What each operation lays. -/
def laysWW (q : Int) (s : ByteArray) (g : Int) (p b mk : ByteArray) (b0 : Nat) (j : Nat) (v : Value) (w : World) : Prop :=
  match j with
  | 0 => v = .agg #[.int .i64 q, .string s, .int .i64 g, .string p, .string b]
  | 1 => v = .string mk
  | 2 => v = .pointer (some ⟨b0, 0, none⟩)
  | 3 => v = .int .i64 q
  | 4 => v = .int .u8 (q % 256)
  | 5 => v = .pointer (some ⟨b0, 1, none⟩)
  | 6 => v = .string s
  | 7 => v = .int .i64 s.size
  | 8 => v = .int .u8 ((s.size : Int) % 256)
  | 9 => ∃ gb, v = .slice (some ⟨gb, 0, none⟩) 2 2 ∧ w.heap[gb]? = some (.cells #[.int .u8 (q % 256), .int .u8 ((s.size : Int) % 256)] 5 (0, 0))
  | 10 => v = .string (mkS [byN q, byN (s.size : Nat)])
  | 11 => v = .string (mk ++ mkS [byN q, byN (s.size : Nat)])
  | 12 => v = .pointer (some ⟨b0, 1, none⟩)
  | 13 => v = .string s
  | 14 => v = .string (mk ++ mkS [byN q, byN (s.size : Nat)] ++ s)
  | 15 => v = .pointer (some ⟨b0, 2, none⟩)
  | 16 => v = .int .i64 g
  | 17 => v = .int .u8 (g % 256)
  | 18 => ∃ gb, v = .slice (some ⟨gb, 0, none⟩) 1 1 ∧ w.heap[gb]? = some (.cells #[.int .u8 (g % 256)] 5 (0, 0))
  | 19 => v = .string (mkS [byN g])
  | 20 => v = .string (mk ++ mkS [byN q, byN (s.size : Nat)] ++ s ++ mkS [byN g])
  | 21 => v = .pointer (some ⟨b0, 3, none⟩)
  | 22 => v = .string p
  | 23 => v = .string (mk ++ mkS [byN q, byN (s.size : Nat)] ++ s ++ mkS [byN g] ++ p)
  | 24 => v = .int .i64 b.size
  | 25 => v = .int .i64 ((b.size : Int) / 256)
  | 26 => v = .int .u8 (((b.size : Int) / 256) % 256)
  | 27 => v = .int .i64 b.size
  | 28 => v = .int .u8 ((b.size : Int) % 256)
  | 29 => ∃ gb, v = .slice (some ⟨gb, 0, none⟩) 2 2 ∧ w.heap[gb]? = some (.cells #[.int .u8 (((b.size : Int) / 256) % 256), .int .u8 ((b.size : Int) % 256)] 5 (0, 0))
  | 30 => v = .string (mkS [byN ((b.size : Int) / 256), byN (b.size : Nat)])
  | 31 => v = .string (mk ++ mkS [byN q, byN (s.size : Nat)] ++ s ++ mkS [byN g] ++ p ++ mkS [byN ((b.size : Int) / 256), byN (b.size : Nat)])
  | 32 => v = .pointer (some ⟨b0, 4, none⟩)
  | 33 => v = .string b
  | 34 => v = .string (mk ++ mkS [byN q, byN (s.size : Nat)] ++ s ++ mkS [byN g] ++ p ++ mkS [byN ((b.size : Int) / 256), byN (b.size : Nat)] ++ b)
  | 35 => v = .string (mk ++ mkS [byN q, byN (s.size : Nat)] ++ s ++ mkS [byN g] ++ p ++ mkS [byN ((b.size : Int) / 256), byN (b.size : Nat)] ++ b)
  | 36 => v = .nilIface
  | _ => True
theorem bs_app (a b : ByteArray) : bs (a ++ b) = bs a ++ bs b := by
  unfold bs; rw [ByteArray.data_append, Array.toList_append]
theorem laysWW_kept {q : Int} {s : ByteArray} {g : Int} {p b mk : ByteArray} {b0 : Nat} (j : Nat) (v : Value) (w w' : World) (h : ∃ x, w' = ext w x) (hr : laysWW q s g p b mk b0 j v w) : laysWW q s g p b mk b0 j v w' := by
  unfold laysWW at hr ⊢
  split at hr <;> first | exact hr | (obtain ⟨gb, h1, h2⟩ := hr; exact ⟨gb, h1, ((ext_iff.1 h).block _ (lt_of_heap h2)).trans h2⟩)
/-- Bytes in a block, as a text. -/
theorem string_of_cells {w : World} {gb : Nat} {l : List UInt8} (h : w.heap[gb]? = some (.cells (l.map fun c : UInt8 => Value.int .u8 (c.toNat : Int)).toArray 5 (0, 0))) :
    (convert 35 9 (.slice (some ⟨gb, 0, none⟩) l.length l.length)).run Tryz.prog w = .ok (.string ⟨l.toArray⟩) w := by
  refine run_convert_bytes_back w 35 9 5 ⟨gb, 0, none⟩ l.length l Tryz.underlying35 Tryz.underlying5 Tryz.underlying9 ?_
  intro j hj
  have hadd : (⟨gb, 0, none⟩ : Addr).add j = ⟨gb, j, none⟩ := by unfold Addr.add; split <;> simp_all
  rw [hadd, cell_in, h]
  simp [cellIn, List.getElem?_map, List.getElem?_eq_getElem hj]
set_option maxRecDepth 100000 in
set_option maxHeartbeats 4000000 in
theorem wwrite_any (r : Rec) (w : World) (hs : r.subject.size ≤ 1048576 ∧ r.prev.size ≤ 1048576 ∧ r.body.size ≤ 1048576) (hR : Rounds w) :
    Calls Tryz.prog 61 #[.agg (recV r)] w fun e w' => e = .returned (if fitB r = true then .tuple #[.string ⟨(writeL mkB r).toArray⟩, .nilIface] else .tuple #[.string ⟨#[]⟩, errV 1]) ∧ ∃ x, w' = ext w x := by
  have R := Lib.hid hR
  clear hR
  have WR := fun w => wright_any r w hs.1
  have FM := fun w h => fmark_any r w (by omega) h
  cases hf : fitB r with
  | false =>
    rw [hf] at WR
    simp only [Bool.false_eq_true, if_false]
    obtain ⟨q, s, g, p, b⟩ := r
    unfold recV at WR ⊢
    dsimp only at WR ⊢
    go_enter Tryz.func61, Tryz.ntmps61
    go_wp2_with fail
    refine (WR _).mono ?_
    rintro _ w2 ⟨rfl, hx⟩
    have X2 := Lib.hid (ext_trans (ext_alloc _ (ext_refl w)) hx)
    clear hx
    go_wp2_with fail
    go_ret2
    exact ⟨rfl, X2.out⟩
  | true =>
    rw [hf] at WR
    simp only [if_true]
    have HF := Lib.hid (fits_of hf)
    clear hf
    obtain ⟨q, s, g, p, b⟩ := r
    have HW := Lib.hid (rfl : writeL mkB ⟨q, s, g, p, b⟩ = writeL mkB ⟨q, s, g, p, b⟩)
    generalize hwt : writeL mkB ⟨q, s, g, p, b⟩ = T
    have HT := Lib.hid hwt
    clear hwt HW
    unfold recV at WR FM ⊢
    dsimp only at WR FM hs ⊢
    go_enter Tryz.func61, Tryz.ntmps61
    go_wp2_with fail
    have H1 := Lib.hid (heap_alloc_at w (.cells #[.int .i64 q, .string s, .int .i64 g, .string p, .string b] 108))
    have X1 := Lib.hid (ext_alloc (.cells #[.int .i64 q, .string s, .int .i64 g, .string p, .string b] 108) (ext_refl w))
    generalize w.alloc (.cells #[.int .i64 q, .string s, .int .i64 g, .string p, .string b] 108) = w1 at H1 X1 ⊢
    refine (WR _).mono ?_
    rintro _ w2 ⟨rfl, hx⟩
    have H2 := Lib.hid (((ext_iff.1 hx).block _ (lt_of_heap H1.out)).trans H1.out)
    have X2 := Lib.hid (ext_trans X1.out hx)
    clear hx H1 X1
    obtain ⟨c0, c1, c2, c3, c4⟩ := rec_cells (r := ⟨q, s, g, p, b⟩) H2.out
    dsimp only at c0 c1 c2 c3 c4
    go_wp2_with fail
    -- REGION
    have hb0 := lt_of_heap H2.out
    have RB := Rounds_ext R.out X2.out
    have hmk : (⟨(mkB ⟨q, s, g, p, b⟩).toArray⟩ : ByteArray).size ≤ 16 := by show (mkB _).toArray.size ≤ 16; rw [List.size_toArray]; exact Nat.le_of_eq (mkB_length _)
    have HMK : Hid (bs (⟨(mkB ⟨q, s, g, p, b⟩).toArray⟩ : ByteArray) = mkB ⟨q, s, g, p, b⟩) := Lib.hid rfl
    generalize (⟨(mkB ⟨q, s, g, p, b⟩).toArray⟩ : ByteArray) = mk at FM hmk HMK
    have zA : (mkS [byN q, byN (s.size : Nat)]).size ≤ 2 := Nat.le_refl _
    have zB : (mkS [byN g]).size ≤ 1 := Nat.le_refl _
    have zC : (mkS [byN ((b.size : Int) / 256), byN (b.size : Nat)]).size ≤ 2 := Nat.le_refl _
    obtain ⟨hs1, hs2, hs3⟩ := hs
    generalize hb : w.heap.size = b0 at *
    refine wp_region_slots (frWW q s g p b b0) dstWW (fun k => if k = 2 then .string ⟨#[]⟩ else if k = 3 then .nilIface else undef) (laysWW q s g p b mk b0) (fun _ _ w3 => Below w2.heap.size w2 w3) (fun w w' => ∃ x, w' = ext w x) (by kernel_rfl) (by kernel_rfl) rfl ?_ (by kernel_rfl) (Below.refl _ _).drew ?_ ?_
    · exact laysWW_kept
    · refine ⟨?_, ?_, ?_, ?_, ?_, ?_, ?_, ?_, ?_, ?_, ?_, ?_, ?_, ?_, ?_, ?_, ?_, ?_, ?_, ?_, ?_, ?_, ?_, ?_, ?_, ?_, ?_, ?_, ?_, ?_, ?_, ?_, ?_, ?_, ?_, ?_, ?_, trivial⟩
      all_goals (intro L gs w1 hLi hdeps hR hC; refine ends_of fun Q hQ => ?_)
      · have HQ : ∀ (a' : Act) (v : Value) (w' : World), a' = frWW q s g p b b0 (upd1 gs 12 v) ∧ (∃ x, w' = ext w1 x) ∧ laysWW q s g p b mk b0 0 v w' ∧ Below w2.heap.size w2 w' → Q .normal a' w' := fun a' v w' h => hQ.out _ _ ⟨v, h.1, h.2.1, h.2.2.1, h.2.2.2⟩
        unfold frWW
        obtain ⟨c0, c1, c2, c3, c4⟩ := rec_cells (r := ⟨q, s, g, p, b⟩) ((hC.block _ hb0).trans H2.out)
        dsimp only at c0 c1 c2 c3 c4
        go_wp2_with fail
        refine HQ _ (.agg #[.int .i64 q, .string s, .int .i64 g, .string p, .string b]) _ ⟨by simp only [frWW, upd1, Nat.reduceEqDiff, reduceIte], ext_refl _, rfl, hC⟩
      · have HQ : ∀ (a' : Act) (v : Value) (w' : World), a' = frWW q s g p b b0 (upd1 gs 13 v) ∧ (∃ x, w' = ext w1 x) ∧ laysWW q s g p b mk b0 1 v w' ∧ Below w2.heap.size w2 w' → Q .normal a' w' := fun a' v w' h => hQ.out _ _ ⟨v, h.1, h.2.1, h.2.2.1, h.2.2.2⟩
        have r0 : gs 12 = .agg #[.int .i64 q, .string s, .int .i64 g, .string p, .string b] := hR 0 (hdeps ⟨0, .data⟩ (by simp) rfl)
        unfold frWW
        go_wp2_with fail
        refine (FM _ (Rounds_ext RB (ext_of hC))).mono ?_
        rintro _ w4 ⟨rfl, hx⟩
        go_wp2_with fail
        refine HQ _ (.string mk) _ ⟨by simp only [frWW, upd1, r0, Nat.reduceEqDiff, reduceIte], hx, rfl, hC.trans ((ext_iff.1 hx).mono hC.size)⟩
      · have HQ : ∀ (a' : Act) (v : Value) (w' : World), a' = frWW q s g p b b0 (upd1 gs 14 v) ∧ (∃ x, w' = ext w1 x) ∧ laysWW q s g p b mk b0 2 v w' ∧ Below w2.heap.size w2 w' → Q .normal a' w' := fun a' v w' h => hQ.out _ _ ⟨v, h.1, h.2.1, h.2.2.1, h.2.2.2⟩
        unfold frWW
        go_wp2_with fail
        refine HQ _ (.pointer (some ⟨b0, 0, none⟩)) _ ⟨by simp only [frWW, upd1, Nat.reduceEqDiff, reduceIte], ext_refl _, rfl, hC⟩
      · have HQ : ∀ (a' : Act) (v : Value) (w' : World), a' = frWW q s g p b b0 (upd1 gs 15 v) ∧ (∃ x, w' = ext w1 x) ∧ laysWW q s g p b mk b0 3 v w' ∧ Below w2.heap.size w2 w' → Q .normal a' w' := fun a' v w' h => hQ.out _ _ ⟨v, h.1, h.2.1, h.2.2.1, h.2.2.2⟩
        have r2 : gs 14 = .pointer (some ⟨b0, 0, none⟩) := hR 2 (hdeps ⟨2, .data⟩ (by simp) rfl)
        unfold frWW
        obtain ⟨c0, c1, c2, c3, c4⟩ := rec_cells (r := ⟨q, s, g, p, b⟩) ((hC.block _ hb0).trans H2.out)
        dsimp only at c0 c1 c2 c3 c4
        go_wp2_with fail
        refine HQ _ (.int .i64 q) _ ⟨by simp only [frWW, upd1, r2, Nat.reduceEqDiff, reduceIte], ext_refl _, rfl, hC⟩
      · have HQ : ∀ (a' : Act) (v : Value) (w' : World), a' = frWW q s g p b b0 (upd1 gs 16 v) ∧ (∃ x, w' = ext w1 x) ∧ laysWW q s g p b mk b0 4 v w' ∧ Below w2.heap.size w2 w' → Q .normal a' w' := fun a' v w' h => hQ.out _ _ ⟨v, h.1, h.2.1, h.2.2.1, h.2.2.2⟩
        have r3 : gs 15 = .int .i64 q := hR 3 (hdeps ⟨3, .data⟩ (by simp) rfl)
        unfold frWW
        go_wp2_with fail
        refine HQ _ (.int .u8 (q % 256)) _ ⟨by simp only [frWW, upd1, r3, Nat.reduceEqDiff, reduceIte], ext_refl _, rfl, hC⟩
      · have HQ : ∀ (a' : Act) (v : Value) (w' : World), a' = frWW q s g p b b0 (upd1 gs 17 v) ∧ (∃ x, w' = ext w1 x) ∧ laysWW q s g p b mk b0 5 v w' ∧ Below w2.heap.size w2 w' → Q .normal a' w' := fun a' v w' h => hQ.out _ _ ⟨v, h.1, h.2.1, h.2.2.1, h.2.2.2⟩
        unfold frWW
        go_wp2_with fail
        refine HQ _ (.pointer (some ⟨b0, 1, none⟩)) _ ⟨by simp only [frWW, upd1, Nat.reduceEqDiff, reduceIte], ext_refl _, rfl, hC⟩
      · have HQ : ∀ (a' : Act) (v : Value) (w' : World), a' = frWW q s g p b b0 (upd1 gs 18 v) ∧ (∃ x, w' = ext w1 x) ∧ laysWW q s g p b mk b0 6 v w' ∧ Below w2.heap.size w2 w' → Q .normal a' w' := fun a' v w' h => hQ.out _ _ ⟨v, h.1, h.2.1, h.2.2.1, h.2.2.2⟩
        have r5 : gs 17 = .pointer (some ⟨b0, 1, none⟩) := hR 5 (hdeps ⟨5, .data⟩ (by simp) rfl)
        unfold frWW
        obtain ⟨c0, c1, c2, c3, c4⟩ := rec_cells (r := ⟨q, s, g, p, b⟩) ((hC.block _ hb0).trans H2.out)
        dsimp only at c0 c1 c2 c3 c4
        go_wp2_with fail
        refine HQ _ (.string s) _ ⟨by simp only [frWW, upd1, r5, Nat.reduceEqDiff, reduceIte], ext_refl _, rfl, hC⟩
      · have HQ : ∀ (a' : Act) (v : Value) (w' : World), a' = frWW q s g p b b0 (upd1 gs 19 v) ∧ (∃ x, w' = ext w1 x) ∧ laysWW q s g p b mk b0 7 v w' ∧ Below w2.heap.size w2 w' → Q .normal a' w' := fun a' v w' h => hQ.out _ _ ⟨v, h.1, h.2.1, h.2.2.1, h.2.2.2⟩
        have r6 : gs 18 = .string s := hR 6 (hdeps ⟨6, .data⟩ (by simp) rfl)
        unfold frWW
        go_wp2_with fail
        refine HQ _ (.int .i64 s.size) _ ⟨by simp only [frWW, upd1, r6, Nat.reduceEqDiff, reduceIte], ext_refl _, rfl, hC⟩
      · have HQ : ∀ (a' : Act) (v : Value) (w' : World), a' = frWW q s g p b b0 (upd1 gs 20 v) ∧ (∃ x, w' = ext w1 x) ∧ laysWW q s g p b mk b0 8 v w' ∧ Below w2.heap.size w2 w' → Q .normal a' w' := fun a' v w' h => hQ.out _ _ ⟨v, h.1, h.2.1, h.2.2.1, h.2.2.2⟩
        have r7 : gs 19 = .int .i64 s.size := hR 7 (hdeps ⟨7, .data⟩ (by simp) rfl)
        unfold frWW
        go_wp2_with fail
        refine HQ _ (.int .u8 ((s.size : Int) % 256)) _ ⟨by simp only [frWW, upd1, r7, Nat.reduceEqDiff, reduceIte], ext_refl _, rfl, hC⟩
      · have HQ : ∀ (a' : Act) (v : Value) (w' : World), a' = frWW q s g p b b0 (upd1 gs 21 v) ∧ (∃ x, w' = ext w1 x) ∧ laysWW q s g p b mk b0 9 v w' ∧ Below w2.heap.size w2 w' → Q .normal a' w' := fun a' v w' h => hQ.out _ _ ⟨v, h.1, h.2.1, h.2.2.1, h.2.2.2⟩
        have r4 : gs 16 = .int .u8 (q % 256) := hR 4 (hdeps ⟨4, .data⟩ (by simp) rfl)
        have r8 : gs 20 = .int .u8 ((s.size : Int) % 256) := hR 8 (hdeps ⟨8, .data⟩ (by simp) rfl)
        unfold frWW
        go_wp2_with fail
        refine HQ _ (.slice (some ⟨w1.heap.size, 0, none⟩) 2 2) _ ⟨by simp only [frWW, upd1, r4, r8, Nat.reduceEqDiff, reduceIte], ext_alloc _ (ext_refl _), ⟨w1.heap.size, rfl, heap_alloc_at w1 _⟩, hC.alloc hC.size _⟩
      · have HQ : ∀ (a' : Act) (v : Value) (w' : World), a' = frWW q s g p b b0 (upd1 gs 22 v) ∧ (∃ x, w' = ext w1 x) ∧ laysWW q s g p b mk b0 10 v w' ∧ Below w2.heap.size w2 w' → Q .normal a' w' := fun a' v w' h => hQ.out _ _ ⟨v, h.1, h.2.1, h.2.2.1, h.2.2.2⟩
        obtain ⟨gb9, r9, hb9⟩ := hR 9 (hdeps ⟨9, .data⟩ (by simp) rfl)
        change gs 21 = _ at r9
        unfold frWW
        have hcv : (convert 35 9 (.slice (some ⟨gb9, 0, none⟩) 2 2)).run Tryz.prog w1 = .ok (.string (mkS [byN q, byN (s.size : Nat)])) w1 := string_of_cells (l := [byN q, byN (s.size : Nat)]) (by rw [hb9]; simp only [List.map_cons, List.map_nil, byN_val])
        go_wp2_with fail
        refine HQ _ (.string (mkS [byN q, byN (s.size : Nat)])) _ ⟨by simp only [frWW, upd1, r9, Nat.reduceEqDiff, reduceIte], ext_refl _, rfl, hC⟩
      · have HQ : ∀ (a' : Act) (v : Value) (w' : World), a' = frWW q s g p b b0 (upd1 gs 23 v) ∧ (∃ x, w' = ext w1 x) ∧ laysWW q s g p b mk b0 11 v w' ∧ Below w2.heap.size w2 w' → Q .normal a' w' := fun a' v w' h => hQ.out _ _ ⟨v, h.1, h.2.1, h.2.2.1, h.2.2.2⟩
        have r1 : gs 13 = .string mk := hR 1 (hdeps ⟨1, .data⟩ (by simp) rfl)
        have r10 : gs 22 = .string (mkS [byN q, byN (s.size : Nat)]) := hR 10 (hdeps ⟨10, .data⟩ (by simp) rfl)
        unfold frWW
        go_wp2_with fail
        refine HQ _ (.string (mk ++ mkS [byN q, byN (s.size : Nat)])) _ ⟨by simp only [frWW, upd1, r1, r10, Nat.reduceEqDiff, reduceIte], ext_refl _, rfl, hC⟩
      · have HQ : ∀ (a' : Act) (v : Value) (w' : World), a' = frWW q s g p b b0 (upd1 gs 24 v) ∧ (∃ x, w' = ext w1 x) ∧ laysWW q s g p b mk b0 12 v w' ∧ Below w2.heap.size w2 w' → Q .normal a' w' := fun a' v w' h => hQ.out _ _ ⟨v, h.1, h.2.1, h.2.2.1, h.2.2.2⟩
        unfold frWW
        go_wp2_with fail
        refine HQ _ (.pointer (some ⟨b0, 1, none⟩)) _ ⟨by simp only [frWW, upd1, Nat.reduceEqDiff, reduceIte], ext_refl _, rfl, hC⟩
      · have HQ : ∀ (a' : Act) (v : Value) (w' : World), a' = frWW q s g p b b0 (upd1 gs 25 v) ∧ (∃ x, w' = ext w1 x) ∧ laysWW q s g p b mk b0 13 v w' ∧ Below w2.heap.size w2 w' → Q .normal a' w' := fun a' v w' h => hQ.out _ _ ⟨v, h.1, h.2.1, h.2.2.1, h.2.2.2⟩
        have r12 : gs 24 = .pointer (some ⟨b0, 1, none⟩) := hR 12 (hdeps ⟨12, .data⟩ (by simp) rfl)
        unfold frWW
        obtain ⟨c0, c1, c2, c3, c4⟩ := rec_cells (r := ⟨q, s, g, p, b⟩) ((hC.block _ hb0).trans H2.out)
        dsimp only at c0 c1 c2 c3 c4
        go_wp2_with fail
        refine HQ _ (.string s) _ ⟨by simp only [frWW, upd1, r12, Nat.reduceEqDiff, reduceIte], ext_refl _, rfl, hC⟩
      · have HQ : ∀ (a' : Act) (v : Value) (w' : World), a' = frWW q s g p b b0 (upd1 gs 26 v) ∧ (∃ x, w' = ext w1 x) ∧ laysWW q s g p b mk b0 14 v w' ∧ Below w2.heap.size w2 w' → Q .normal a' w' := fun a' v w' h => hQ.out _ _ ⟨v, h.1, h.2.1, h.2.2.1, h.2.2.2⟩
        have r11 : gs 23 = .string (mk ++ mkS [byN q, byN (s.size : Nat)]) := hR 11 (hdeps ⟨11, .data⟩ (by simp) rfl)
        have r13 : gs 25 = .string s := hR 13 (hdeps ⟨13, .data⟩ (by simp) rfl)
        unfold frWW
        go_wp2_with fail
        refine HQ _ (.string (mk ++ mkS [byN q, byN (s.size : Nat)] ++ s)) _ ⟨by simp only [frWW, upd1, r11, r13, Nat.reduceEqDiff, reduceIte], ext_refl _, rfl, hC⟩
      · have HQ : ∀ (a' : Act) (v : Value) (w' : World), a' = frWW q s g p b b0 (upd1 gs 27 v) ∧ (∃ x, w' = ext w1 x) ∧ laysWW q s g p b mk b0 15 v w' ∧ Below w2.heap.size w2 w' → Q .normal a' w' := fun a' v w' h => hQ.out _ _ ⟨v, h.1, h.2.1, h.2.2.1, h.2.2.2⟩
        unfold frWW
        go_wp2_with fail
        refine HQ _ (.pointer (some ⟨b0, 2, none⟩)) _ ⟨by simp only [frWW, upd1, Nat.reduceEqDiff, reduceIte], ext_refl _, rfl, hC⟩
      · have HQ : ∀ (a' : Act) (v : Value) (w' : World), a' = frWW q s g p b b0 (upd1 gs 28 v) ∧ (∃ x, w' = ext w1 x) ∧ laysWW q s g p b mk b0 16 v w' ∧ Below w2.heap.size w2 w' → Q .normal a' w' := fun a' v w' h => hQ.out _ _ ⟨v, h.1, h.2.1, h.2.2.1, h.2.2.2⟩
        have r15 : gs 27 = .pointer (some ⟨b0, 2, none⟩) := hR 15 (hdeps ⟨15, .data⟩ (by simp) rfl)
        unfold frWW
        obtain ⟨c0, c1, c2, c3, c4⟩ := rec_cells (r := ⟨q, s, g, p, b⟩) ((hC.block _ hb0).trans H2.out)
        dsimp only at c0 c1 c2 c3 c4
        go_wp2_with fail
        refine HQ _ (.int .i64 g) _ ⟨by simp only [frWW, upd1, r15, Nat.reduceEqDiff, reduceIte], ext_refl _, rfl, hC⟩
      · have HQ : ∀ (a' : Act) (v : Value) (w' : World), a' = frWW q s g p b b0 (upd1 gs 29 v) ∧ (∃ x, w' = ext w1 x) ∧ laysWW q s g p b mk b0 17 v w' ∧ Below w2.heap.size w2 w' → Q .normal a' w' := fun a' v w' h => hQ.out _ _ ⟨v, h.1, h.2.1, h.2.2.1, h.2.2.2⟩
        have r16 : gs 28 = .int .i64 g := hR 16 (hdeps ⟨16, .data⟩ (by simp) rfl)
        unfold frWW
        go_wp2_with fail
        refine HQ _ (.int .u8 (g % 256)) _ ⟨by simp only [frWW, upd1, r16, Nat.reduceEqDiff, reduceIte], ext_refl _, rfl, hC⟩
      · have HQ : ∀ (a' : Act) (v : Value) (w' : World), a' = frWW q s g p b b0 (upd1 gs 30 v) ∧ (∃ x, w' = ext w1 x) ∧ laysWW q s g p b mk b0 18 v w' ∧ Below w2.heap.size w2 w' → Q .normal a' w' := fun a' v w' h => hQ.out _ _ ⟨v, h.1, h.2.1, h.2.2.1, h.2.2.2⟩
        have r17 : gs 29 = .int .u8 (g % 256) := hR 17 (hdeps ⟨17, .data⟩ (by simp) rfl)
        unfold frWW
        go_wp2_with fail
        refine HQ _ (.slice (some ⟨w1.heap.size, 0, none⟩) 1 1) _ ⟨by simp only [frWW, upd1, r17, Nat.reduceEqDiff, reduceIte], ext_alloc _ (ext_refl _), ⟨w1.heap.size, rfl, heap_alloc_at w1 _⟩, hC.alloc hC.size _⟩
      · have HQ : ∀ (a' : Act) (v : Value) (w' : World), a' = frWW q s g p b b0 (upd1 gs 31 v) ∧ (∃ x, w' = ext w1 x) ∧ laysWW q s g p b mk b0 19 v w' ∧ Below w2.heap.size w2 w' → Q .normal a' w' := fun a' v w' h => hQ.out _ _ ⟨v, h.1, h.2.1, h.2.2.1, h.2.2.2⟩
        obtain ⟨gb18, r18, hb18⟩ := hR 18 (hdeps ⟨18, .data⟩ (by simp) rfl)
        change gs 30 = _ at r18
        unfold frWW
        have hcv : (convert 35 9 (.slice (some ⟨gb18, 0, none⟩) 1 1)).run Tryz.prog w1 = .ok (.string (mkS [byN g])) w1 := string_of_cells (l := [byN g]) (by rw [hb18]; simp only [List.map_cons, List.map_nil, byN_val])
        go_wp2_with fail
        refine HQ _ (.string (mkS [byN g])) _ ⟨by simp only [frWW, upd1, r18, Nat.reduceEqDiff, reduceIte], ext_refl _, rfl, hC⟩
      · have HQ : ∀ (a' : Act) (v : Value) (w' : World), a' = frWW q s g p b b0 (upd1 gs 32 v) ∧ (∃ x, w' = ext w1 x) ∧ laysWW q s g p b mk b0 20 v w' ∧ Below w2.heap.size w2 w' → Q .normal a' w' := fun a' v w' h => hQ.out _ _ ⟨v, h.1, h.2.1, h.2.2.1, h.2.2.2⟩
        have r14 : gs 26 = .string (mk ++ mkS [byN q, byN (s.size : Nat)] ++ s) := hR 14 (hdeps ⟨14, .data⟩ (by simp) rfl)
        have r19 : gs 31 = .string (mkS [byN g]) := hR 19 (hdeps ⟨19, .data⟩ (by simp) rfl)
        unfold frWW
        go_wp2_with fail
        refine HQ _ (.string (mk ++ mkS [byN q, byN (s.size : Nat)] ++ s ++ mkS [byN g])) _ ⟨by simp only [frWW, upd1, r14, r19, Nat.reduceEqDiff, reduceIte], ext_refl _, rfl, hC⟩
      · have HQ : ∀ (a' : Act) (v : Value) (w' : World), a' = frWW q s g p b b0 (upd1 gs 33 v) ∧ (∃ x, w' = ext w1 x) ∧ laysWW q s g p b mk b0 21 v w' ∧ Below w2.heap.size w2 w' → Q .normal a' w' := fun a' v w' h => hQ.out _ _ ⟨v, h.1, h.2.1, h.2.2.1, h.2.2.2⟩
        unfold frWW
        go_wp2_with fail
        refine HQ _ (.pointer (some ⟨b0, 3, none⟩)) _ ⟨by simp only [frWW, upd1, Nat.reduceEqDiff, reduceIte], ext_refl _, rfl, hC⟩
      · have HQ : ∀ (a' : Act) (v : Value) (w' : World), a' = frWW q s g p b b0 (upd1 gs 34 v) ∧ (∃ x, w' = ext w1 x) ∧ laysWW q s g p b mk b0 22 v w' ∧ Below w2.heap.size w2 w' → Q .normal a' w' := fun a' v w' h => hQ.out _ _ ⟨v, h.1, h.2.1, h.2.2.1, h.2.2.2⟩
        have r21 : gs 33 = .pointer (some ⟨b0, 3, none⟩) := hR 21 (hdeps ⟨21, .data⟩ (by simp) rfl)
        unfold frWW
        obtain ⟨c0, c1, c2, c3, c4⟩ := rec_cells (r := ⟨q, s, g, p, b⟩) ((hC.block _ hb0).trans H2.out)
        dsimp only at c0 c1 c2 c3 c4
        go_wp2_with fail
        refine HQ _ (.string p) _ ⟨by simp only [frWW, upd1, r21, Nat.reduceEqDiff, reduceIte], ext_refl _, rfl, hC⟩
      · have HQ : ∀ (a' : Act) (v : Value) (w' : World), a' = frWW q s g p b b0 (upd1 gs 35 v) ∧ (∃ x, w' = ext w1 x) ∧ laysWW q s g p b mk b0 23 v w' ∧ Below w2.heap.size w2 w' → Q .normal a' w' := fun a' v w' h => hQ.out _ _ ⟨v, h.1, h.2.1, h.2.2.1, h.2.2.2⟩
        have r20 : gs 32 = .string (mk ++ mkS [byN q, byN (s.size : Nat)] ++ s ++ mkS [byN g]) := hR 20 (hdeps ⟨20, .data⟩ (by simp) rfl)
        have r22 : gs 34 = .string p := hR 22 (hdeps ⟨22, .data⟩ (by simp) rfl)
        unfold frWW
        go_wp2_with fail
        refine HQ _ (.string (mk ++ mkS [byN q, byN (s.size : Nat)] ++ s ++ mkS [byN g] ++ p)) _ ⟨by simp only [frWW, upd1, r20, r22, Nat.reduceEqDiff, reduceIte], ext_refl _, rfl, hC⟩
      · have HQ : ∀ (a' : Act) (v : Value) (w' : World), a' = frWW q s g p b b0 (upd1 gs 36 v) ∧ (∃ x, w' = ext w1 x) ∧ laysWW q s g p b mk b0 24 v w' ∧ Below w2.heap.size w2 w' → Q .normal a' w' := fun a' v w' h => hQ.out _ _ ⟨v, h.1, h.2.1, h.2.2.1, h.2.2.2⟩
        unfold frWW
        go_wp2_with fail
        refine HQ _ (.int .i64 b.size) _ ⟨by simp only [frWW, upd1, Nat.reduceEqDiff, reduceIte], ext_refl _, rfl, hC⟩
      · have HQ : ∀ (a' : Act) (v : Value) (w' : World), a' = frWW q s g p b b0 (upd1 gs 37 v) ∧ (∃ x, w' = ext w1 x) ∧ laysWW q s g p b mk b0 25 v w' ∧ Below w2.heap.size w2 w' → Q .normal a' w' := fun a' v w' h => hQ.out _ _ ⟨v, h.1, h.2.1, h.2.2.1, h.2.2.2⟩
        have r24 : gs 36 = .int .i64 b.size := hR 24 (hdeps ⟨24, .data⟩ (by simp) rfl)
        unfold frWW
        go_wp2_with fail
        refine HQ _ (.int .i64 ((b.size : Int) / 256)) _ ⟨by simp only [frWW, upd1, r24, Nat.reduceEqDiff, reduceIte], ext_refl _, rfl, hC⟩
      · have HQ : ∀ (a' : Act) (v : Value) (w' : World), a' = frWW q s g p b b0 (upd1 gs 38 v) ∧ (∃ x, w' = ext w1 x) ∧ laysWW q s g p b mk b0 26 v w' ∧ Below w2.heap.size w2 w' → Q .normal a' w' := fun a' v w' h => hQ.out _ _ ⟨v, h.1, h.2.1, h.2.2.1, h.2.2.2⟩
        have r25 : gs 37 = .int .i64 ((b.size : Int) / 256) := hR 25 (hdeps ⟨25, .data⟩ (by simp) rfl)
        unfold frWW
        go_wp2_with fail
        refine HQ _ (.int .u8 (((b.size : Int) / 256) % 256)) _ ⟨by simp only [frWW, upd1, r25, Nat.reduceEqDiff, reduceIte], ext_refl _, rfl, hC⟩
      · have HQ : ∀ (a' : Act) (v : Value) (w' : World), a' = frWW q s g p b b0 (upd1 gs 39 v) ∧ (∃ x, w' = ext w1 x) ∧ laysWW q s g p b mk b0 27 v w' ∧ Below w2.heap.size w2 w' → Q .normal a' w' := fun a' v w' h => hQ.out _ _ ⟨v, h.1, h.2.1, h.2.2.1, h.2.2.2⟩
        unfold frWW
        go_wp2_with fail
        refine HQ _ (.int .i64 b.size) _ ⟨by simp only [frWW, upd1, Nat.reduceEqDiff, reduceIte], ext_refl _, rfl, hC⟩
      · have HQ : ∀ (a' : Act) (v : Value) (w' : World), a' = frWW q s g p b b0 (upd1 gs 40 v) ∧ (∃ x, w' = ext w1 x) ∧ laysWW q s g p b mk b0 28 v w' ∧ Below w2.heap.size w2 w' → Q .normal a' w' := fun a' v w' h => hQ.out _ _ ⟨v, h.1, h.2.1, h.2.2.1, h.2.2.2⟩
        have r27 : gs 39 = .int .i64 b.size := hR 27 (hdeps ⟨27, .data⟩ (by simp) rfl)
        unfold frWW
        go_wp2_with fail
        refine HQ _ (.int .u8 ((b.size : Int) % 256)) _ ⟨by simp only [frWW, upd1, r27, Nat.reduceEqDiff, reduceIte], ext_refl _, rfl, hC⟩
      · have HQ : ∀ (a' : Act) (v : Value) (w' : World), a' = frWW q s g p b b0 (upd1 gs 41 v) ∧ (∃ x, w' = ext w1 x) ∧ laysWW q s g p b mk b0 29 v w' ∧ Below w2.heap.size w2 w' → Q .normal a' w' := fun a' v w' h => hQ.out _ _ ⟨v, h.1, h.2.1, h.2.2.1, h.2.2.2⟩
        have r26 : gs 38 = .int .u8 (((b.size : Int) / 256) % 256) := hR 26 (hdeps ⟨26, .data⟩ (by simp) rfl)
        have r28 : gs 40 = .int .u8 ((b.size : Int) % 256) := hR 28 (hdeps ⟨28, .data⟩ (by simp) rfl)
        unfold frWW
        go_wp2_with fail
        refine HQ _ (.slice (some ⟨w1.heap.size, 0, none⟩) 2 2) _ ⟨by simp only [frWW, upd1, r26, r28, Nat.reduceEqDiff, reduceIte], ext_alloc _ (ext_refl _), ⟨w1.heap.size, rfl, heap_alloc_at w1 _⟩, hC.alloc hC.size _⟩
      · have HQ : ∀ (a' : Act) (v : Value) (w' : World), a' = frWW q s g p b b0 (upd1 gs 42 v) ∧ (∃ x, w' = ext w1 x) ∧ laysWW q s g p b mk b0 30 v w' ∧ Below w2.heap.size w2 w' → Q .normal a' w' := fun a' v w' h => hQ.out _ _ ⟨v, h.1, h.2.1, h.2.2.1, h.2.2.2⟩
        obtain ⟨gb29, r29, hb29⟩ := hR 29 (hdeps ⟨29, .data⟩ (by simp) rfl)
        change gs 41 = _ at r29
        unfold frWW
        have hcv : (convert 35 9 (.slice (some ⟨gb29, 0, none⟩) 2 2)).run Tryz.prog w1 = .ok (.string (mkS [byN ((b.size : Int) / 256), byN (b.size : Nat)])) w1 := string_of_cells (l := [byN ((b.size : Int) / 256), byN (b.size : Nat)]) (by rw [hb29]; simp only [List.map_cons, List.map_nil, byN_val])
        go_wp2_with fail
        refine HQ _ (.string (mkS [byN ((b.size : Int) / 256), byN (b.size : Nat)])) _ ⟨by simp only [frWW, upd1, r29, Nat.reduceEqDiff, reduceIte], ext_refl _, rfl, hC⟩
      · have HQ : ∀ (a' : Act) (v : Value) (w' : World), a' = frWW q s g p b b0 (upd1 gs 43 v) ∧ (∃ x, w' = ext w1 x) ∧ laysWW q s g p b mk b0 31 v w' ∧ Below w2.heap.size w2 w' → Q .normal a' w' := fun a' v w' h => hQ.out _ _ ⟨v, h.1, h.2.1, h.2.2.1, h.2.2.2⟩
        have r23 : gs 35 = .string (mk ++ mkS [byN q, byN (s.size : Nat)] ++ s ++ mkS [byN g] ++ p) := hR 23 (hdeps ⟨23, .data⟩ (by simp) rfl)
        have r30 : gs 42 = .string (mkS [byN ((b.size : Int) / 256), byN (b.size : Nat)]) := hR 30 (hdeps ⟨30, .data⟩ (by simp) rfl)
        unfold frWW
        go_wp2_with fail
        refine HQ _ (.string (mk ++ mkS [byN q, byN (s.size : Nat)] ++ s ++ mkS [byN g] ++ p ++ mkS [byN ((b.size : Int) / 256), byN (b.size : Nat)])) _ ⟨by simp only [frWW, upd1, r23, r30, Nat.reduceEqDiff, reduceIte], ext_refl _, rfl, hC⟩
      · have HQ : ∀ (a' : Act) (v : Value) (w' : World), a' = frWW q s g p b b0 (upd1 gs 44 v) ∧ (∃ x, w' = ext w1 x) ∧ laysWW q s g p b mk b0 32 v w' ∧ Below w2.heap.size w2 w' → Q .normal a' w' := fun a' v w' h => hQ.out _ _ ⟨v, h.1, h.2.1, h.2.2.1, h.2.2.2⟩
        unfold frWW
        go_wp2_with fail
        refine HQ _ (.pointer (some ⟨b0, 4, none⟩)) _ ⟨by simp only [frWW, upd1, Nat.reduceEqDiff, reduceIte], ext_refl _, rfl, hC⟩
      · have HQ : ∀ (a' : Act) (v : Value) (w' : World), a' = frWW q s g p b b0 (upd1 gs 45 v) ∧ (∃ x, w' = ext w1 x) ∧ laysWW q s g p b mk b0 33 v w' ∧ Below w2.heap.size w2 w' → Q .normal a' w' := fun a' v w' h => hQ.out _ _ ⟨v, h.1, h.2.1, h.2.2.1, h.2.2.2⟩
        have r32 : gs 44 = .pointer (some ⟨b0, 4, none⟩) := hR 32 (hdeps ⟨32, .data⟩ (by simp) rfl)
        unfold frWW
        obtain ⟨c0, c1, c2, c3, c4⟩ := rec_cells (r := ⟨q, s, g, p, b⟩) ((hC.block _ hb0).trans H2.out)
        dsimp only at c0 c1 c2 c3 c4
        go_wp2_with fail
        refine HQ _ (.string b) _ ⟨by simp only [frWW, upd1, r32, Nat.reduceEqDiff, reduceIte], ext_refl _, rfl, hC⟩
      · have HQ : ∀ (a' : Act) (v : Value) (w' : World), a' = frWW q s g p b b0 (upd1 gs 46 v) ∧ (∃ x, w' = ext w1 x) ∧ laysWW q s g p b mk b0 34 v w' ∧ Below w2.heap.size w2 w' → Q .normal a' w' := fun a' v w' h => hQ.out _ _ ⟨v, h.1, h.2.1, h.2.2.1, h.2.2.2⟩
        have r31 : gs 43 = .string (mk ++ mkS [byN q, byN (s.size : Nat)] ++ s ++ mkS [byN g] ++ p ++ mkS [byN ((b.size : Int) / 256), byN (b.size : Nat)]) := hR 31 (hdeps ⟨31, .data⟩ (by simp) rfl)
        have r33 : gs 45 = .string b := hR 33 (hdeps ⟨33, .data⟩ (by simp) rfl)
        unfold frWW
        go_wp2_with fail
        refine HQ _ (.string (mk ++ mkS [byN q, byN (s.size : Nat)] ++ s ++ mkS [byN g] ++ p ++ mkS [byN ((b.size : Int) / 256), byN (b.size : Nat)] ++ b)) _ ⟨by simp only [frWW, upd1, r31, r33, Nat.reduceEqDiff, reduceIte], ext_refl _, rfl, hC⟩
      · have HQ : ∀ (a' : Act) (v : Value) (w' : World), a' = frWW q s g p b b0 (upd1 gs 2 v) ∧ (∃ x, w' = ext w1 x) ∧ laysWW q s g p b mk b0 35 v w' ∧ Below w2.heap.size w2 w' → Q .normal a' w' := fun a' v w' h => hQ.out _ _ ⟨v, h.1, h.2.1, h.2.2.1, h.2.2.2⟩
        have r34 : gs 46 = .string (mk ++ mkS [byN q, byN (s.size : Nat)] ++ s ++ mkS [byN g] ++ p ++ mkS [byN ((b.size : Int) / 256), byN (b.size : Nat)] ++ b) := hR 34 (hdeps ⟨34, .data⟩ (by simp) rfl)
        unfold frWW
        go_wp2_with fail
        refine HQ _ (.string (mk ++ mkS [byN q, byN (s.size : Nat)] ++ s ++ mkS [byN g] ++ p ++ mkS [byN ((b.size : Int) / 256), byN (b.size : Nat)] ++ b)) _ ⟨by simp only [frWW, upd1, r34, Nat.reduceEqDiff, reduceIte], ext_refl _, rfl, hC⟩
      · have HQ : ∀ (a' : Act) (v : Value) (w' : World), a' = frWW q s g p b b0 (upd1 gs 3 v) ∧ (∃ x, w' = ext w1 x) ∧ laysWW q s g p b mk b0 36 v w' ∧ Below w2.heap.size w2 w' → Q .normal a' w' := fun a' v w' h => hQ.out _ _ ⟨v, h.1, h.2.1, h.2.2.1, h.2.2.2⟩
        unfold frWW
        go_wp2_with fail
        refine HQ _ (.nilIface) _ ⟨by simp only [frWW, upd1, Nat.reduceEqDiff, reduceIte], ext_refl _, rfl, hC⟩
    · intro L gs w3 hL hR hC
      have r35 : gs 2 = .string (mk ++ mkS [byN q, byN (s.size : Nat)] ++ s ++ mkS [byN g] ++ p ++ mkS [byN ((b.size : Int) / 256), byN (b.size : Nat)] ++ b) := hR 35 (by simp)
      have r36 : gs 3 = .nilIface := hR 36 (by simp)
      have X3 := Lib.hid (ext_trans X2.out (ext_of hC))
      have hfin : (mk ++ mkS [byN q, byN (s.size : Nat)] ++ s ++ mkS [byN g] ++ p ++ mkS [byN ((b.size : Int) / 256), byN (b.size : Nat)] ++ b) = (⟨T.toArray⟩ : ByteArray) := by
        apply bs_inj
        simp only [bs_app, HMK.out]
        show _ = T
        rw [← HT.out]
        show _ = mkB _ ++ _
        simp only [List.append_assoc]
        rfl
      unfold frWW
      rw [r35, r36, hfin]
      clear hL hR hC r35 r36 hfin
      generalize gs 12 = v12
      generalize gs 13 = v13
      generalize gs 14 = v14
      generalize gs 15 = v15
      generalize gs 16 = v16
      generalize gs 17 = v17
      generalize gs 18 = v18
      generalize gs 19 = v19
      generalize gs 20 = v20
      generalize gs 21 = v21
      generalize gs 22 = v22
      generalize gs 23 = v23
      generalize gs 24 = v24
      generalize gs 25 = v25
      generalize gs 26 = v26
      generalize gs 27 = v27
      generalize gs 28 = v28
      generalize gs 29 = v29
      generalize gs 30 = v30
      generalize gs 31 = v31
      generalize gs 32 = v32
      generalize gs 33 = v33
      generalize gs 34 = v34
      generalize gs 35 = v35
      generalize gs 36 = v36
      generalize gs 37 = v37
      generalize gs 38 = v38
      generalize gs 39 = v39
      generalize gs 40 = v40
      generalize gs 41 = v41
      generalize gs 42 = v42
      generalize gs 43 = v43
      generalize gs 44 = v44
      generalize gs 45 = v45
      generalize gs 46 = v46
      go_wp2_with fail
      go_ret2
      exact ⟨rfl, X3.out⟩
end Go.Proofs.YtnkmckdefiblhaaGreatDoor
