/- (*reader.Reader).Read: the record that comes next. -/
import Derived.Test.YtnkmckdefiblhaaGreatDoorProg
import Derived.Test.YtnkmckdefiblhaaGreatDoorG22
import Derived.Test.YtnkmckdefiblhaaGreatDoorG23
namespace Go.Proofs.YtnkmckdefiblhaaGreatDoor
open Go.RowKit Go.Shelf

theorem setEvAt {w : World} {b : Nat} {v0 v1 v2 v3 v4 : Value} {t : TypeId} (h : w.heap[b]? = some (.cells #[v0, v1, v2, v3, v4] t (0, 0))) (x0 x1 x2 x3 x4 : Value) :
    (((((w.setCell ⟨b, 0, none⟩ x0).setCell ⟨b, 1, none⟩ x1).setCell ⟨b, 2, none⟩ x2).setCell ⟨b, 3, none⟩ x3).setCell ⟨b, 4, none⟩ x4).heap[b]? = some (.cells #[x0, x1, x2, x3, x4] t (0, 0)) ∧
    w.grownBy (((((w.setCell ⟨b, 0, none⟩ x0).setCell ⟨b, 1, none⟩ x1).setCell ⟨b, 2, none⟩ x2).setCell ⟨b, 3, none⟩ x3).setCell ⟨b, 4, none⟩ x4) (some b) :=
  ⟨heap_setCell (heap_setCell (heap_setCell (heap_setCell (heap_setCell h _) _) _) _) _, ((((grown_setCell _ _ _ _).trans (grown_setCell _ _ _ _)).trans (grown_setCell _ _ _ _)).trans (grown_setCell _ _ _ _)).trans (grown_setCell _ _ _ _)⟩
/-- The reader's struct, as its number and its mark are set. -/
def stR (w0 : World) (rb vb : Nat) (s0 s1 : Int) (m0 m1 : ByteArray) (tm : Option Nat) (lo : Int) (b1 b2 : Bool) (w : World) : Prop :=
  w0.grownBy w (some rb) ∧ w.heap[rb]? = some (.cells #[.pointer (some ⟨vb, 0, none⟩), .int .i64 (if b1 = true then s1 else s0), .string (if b2 = true then m1 else m0), .map tm, .int .i64 lo] 164 (0, 0))
theorem stR.ext {w0 w w' : World} {rb vb : Nat} {s0 s1 : Int} {m0 m1 : ByteArray} {tm : Option Nat} {lo : Int} {b1 b2 : Bool} (h : stR w0 rb vb s0 s1 m0 m1 tm lo b1 b2 w) (hx : ∃ x, w' = Go.Proofs.YtnkmckdefiblhaaGreatDoor.ext w x) : stR w0 rb vb s0 s1 m0 m1 tm lo b1 b2 w' :=
  ⟨h.1.trans (grown_below (ext_iff.1 hx) _), ((ext_iff.1 hx).block _ (lt_of_heap h.2)).trans h.2⟩
theorem stR.seq {w0 w : World} {rb vb : Nat} {s0 s1 : Int} {m0 m1 : ByteArray} {tm : Option Nat} {lo : Int} {b1 b2 : Bool} (h : stR w0 rb vb s0 s1 m0 m1 tm lo b1 b2 w) : stR w0 rb vb s0 s1 m0 m1 tm lo true b2 (w.setCell ⟨rb, 1, none⟩ (.int .i64 s1)) :=
  ⟨h.1.trans (grown_setCell _ _ _ _), heap_setCell h.2 _⟩
theorem stR.mark {w0 w : World} {rb vb : Nat} {s0 s1 : Int} {m0 m1 : ByteArray} {tm : Option Nat} {lo : Int} {b1 b2 : Bool} (h : stR w0 rb vb s0 s1 m0 m1 tm lo b1 b2 w) : stR w0 rb vb s0 s1 m0 m1 tm lo b1 true (w.setCell ⟨rb, 2, none⟩ (.string m1)) :=
  ⟨h.1.trans (grown_setCell _ _ _ _), heap_setCell h.2 _⟩

theorem right_small {e : Ev} (h : rightE okV e = true) : e.subject.size ≤ 1048576 ∧ e.table.size ≤ 1048576 ∧ e.row.size ≤ 1048576 := by
  have hn := h
  unfold rightE at hn
  rw [Bool.and_eq_true] at hn
  have hs := nameB_size hn.1
  have h2 := hn.2
  by_cases k1 : e.kind = 1
  · rw [if_pos k1] at h2
    simp only [Bool.and_eq_true, decide_eq_true_eq] at h2
    have ht := nameB_size h2.1.1.1
    have hr := nameB_size h2.1.1.2
    omega
  · rw [if_neg k1] at h2
    by_cases k2 : e.kind = 2
    · rw [if_pos k2] at h2
      simp only [Bool.and_eq_true, decide_eq_true_eq] at h2
      have ht := nameB_size h2.1.1
      have hr := nameB_size h2.1.2
      omega
    · rw [if_neg k2] at h2
      by_cases k3 : e.kind = 3
      · rw [if_pos k3] at h2
        simp only [Bool.and_eq_true, decide_eq_true_eq] at h2
        omega
      · rw [if_neg k3] at h2; cases h2
/-- A table has turned: a step of its reader. -/
theorem step.of_kept2 {w w' : World} {D : Blk} {rb n : Nat} {H : Hole} {tm tm' : Option Nat} {T : List Cell} (hk : kept2 w w' rb tm) (h1 : D rb) (h2 : ∀ b, tm = some b → D b) (t1 : tabAt w' rb H tm' n T) (t2 : ∀ b, tm = some b → tm' = some b) (t3 : tm = none → ∀ b, tm' = some b → w.heap.size ≤ b) :
    step w w' D (fun i => D i ∨ tm' = some i) := by
  refine ⟨hk.os, hk.tape, hk.output, hk.size, fun i hi hn => hk.block i hi (fun e => hn (e ▸ h1)) (fun e => hn (h2 i e.symm)), ?_⟩
  rintro i (hi | hi)
  · exact .inl hi
  · cases htm : tm with
    | none => exact .inr ⟨t3 htm i hi, (t1.map i hi).lt⟩
    | some c =>
      have := t2 c htm
      rw [this] at hi
      cases hi
      exact .inl (h2 _ htm)
def frR7 (rb : Nat) (eb : Nat) (q : Int) (s : ByteArray) (gn : Int) (mk : ByteArray) (b : ByteArray) (sq : Int) (g : Nat → Value) : Act := { tmps := #[.pointer (some ⟨rb, 0, none⟩), .agg #[.int .i64 q, .string s, .int .i64 gn, .string mk, .string b], undef, .pointer (some ⟨eb, 0, none⟩), .nilIface, g 5, g 6, undef, .bool false, .pointer (some ⟨eb, 0, none⟩), .int .i64 q, .bool true, .bool true, .pointer (some ⟨eb, 0, none⟩), .int .i64 q, .pointer (some ⟨rb, 0, none⟩), .pointer (some ⟨rb, 0, none⟩), .pointer (some ⟨rb, 1, none⟩), .int .i64 sq, .bool false, .bool false, .bool false, .pointer (some ⟨eb, 0, none⟩), .int .i64 q, .pointer (some ⟨rb, 0, none⟩), .pointer (some ⟨rb, 0, none⟩), .pointer (some ⟨rb, 1, none⟩), .int .i64 sq, .int .i64 (sq + 1), .bool false, undef, .bool false, .pointer (some ⟨eb, 3, none⟩), .string mk, .pointer (some ⟨rb, 0, none⟩), .pointer (some ⟨rb, 0, none⟩), .pointer (some ⟨rb, 2, none⟩), .string mk, .bool false, undef, g 40, g 41, g 42, g 43, g 44, g 45, g 46, g 47, g 48, undef, undef, undef, undef, undef, undef, undef, undef, undef, undef, undef, undef, undef, undef, undef, undef, undef, undef, undef, undef, undef, undef, undef, undef, undef, undef, undef, undef, undef, undef, undef, undef, undef], defers := [] }
def dstR7 (i : Nat) : Nat := ([41, 42, 43, 44, 45, 46, 40, 47, 48, 5, 1010, 6] : List Nat).getD i (2000 + i)
def laysR7 (rb : Nat) (vb : Nat) (q : Int) (s : ByteArray) (gn : Int) (mk : ByteArray) (b : ByteArray) (k : Int) (u : ByteArray) (t : ByteArray) (r : ByteArray) (v0 : ByteArray) (ev0 : Value) (j : Nat) (v : Value) (_ : World) : Prop :=
  match j with
  | 0 => v = .pointer (some ⟨rb, 0, none⟩)
  | 1 => v = .pointer (some ⟨rb, 0, none⟩)
  | 2 => v = .pointer (some ⟨rb, 0, none⟩)
  | 3 => v = .pointer (some ⟨vb, 0, none⟩)
  | 4 => v = .agg #[.int .i64 q, .string s, .int .i64 gn, .string mk, .string b]
  | 5 => v = .tuple #[.agg #[.int .i64 k, .string u, .string t, .string r, .string v0], ev0]
  | 6 => v = .tuple #[.agg #[.int .i64 k, .string u, .string t, .string r, .string v0], ev0]
  | 7 => v = .agg #[.int .i64 k, .string u, .string t, .string r, .string v0]
  | 8 => v = ev0
  | 9 => ∃ p, v = .pointer (some ⟨p, 0, none⟩)
  | 11 => v = ev0
  | _ => True
def frR15 (rb : Nat) (eb : Nat) (p5 : Nat) (q : Int) (s : ByteArray) (gn : Int) (mk : ByteArray) (b : ByteArray) (sq : Int) (k : Int) (u : ByteArray) (t : ByteArray) (r : ByteArray) (v0 : ByteArray) (en : Int) (g7 : Nat → Value) (g : Nat → Value) : Act := { tmps := #[.pointer (some ⟨rb, 0, none⟩), .agg #[.int .i64 q, .string s, .int .i64 gn, .string mk, .string b], undef, .pointer (some ⟨eb, 0, none⟩), .nilIface, .pointer (some ⟨p5, 0, none⟩), .nilIface, .nilIface, .bool false, .pointer (some ⟨eb, 0, none⟩), .int .i64 q, .bool true, .bool true, .pointer (some ⟨eb, 0, none⟩), .int .i64 q, .pointer (some ⟨rb, 0, none⟩), .pointer (some ⟨rb, 0, none⟩), .pointer (some ⟨rb, 1, none⟩), .int .i64 sq, .bool false, .bool false, .bool false, .pointer (some ⟨eb, 0, none⟩), .int .i64 q, .pointer (some ⟨rb, 0, none⟩), .pointer (some ⟨rb, 0, none⟩), .pointer (some ⟨rb, 1, none⟩), .int .i64 sq, .int .i64 (sq + 1), .bool false, undef, .bool false, .pointer (some ⟨eb, 3, none⟩), .string mk, .pointer (some ⟨rb, 0, none⟩), .pointer (some ⟨rb, 0, none⟩), .pointer (some ⟨rb, 2, none⟩), .string mk, .bool false, undef, g7 40, g7 41, g7 42, g7 43, g7 44, g7 45, g7 46, g7 47, g7 48, .pointer (some ⟨rb, 0, none⟩), .pointer (some ⟨rb, 0, none⟩), .pointer (some ⟨rb, 3, none⟩), .agg #[.int .i64 k, .string u, .string t, .string r, .string v0], .nilIface, .nilIface, .bool false, undef, .bool false, .nilIface, .int .i64 en, .bool false, undef, undef, undef, undef, undef, undef, undef, .bool false, .nilIface, .bool false, undef, g 72, g 73, g 74, g 75, g 76, g 77, g 78, g 79, g 80, g 81], defers := [] }
def dstR15 (i : Nat) : Nat := ([72, 73, 74, 75, 76, 77, 78, 79, 1008, 80, 81, 1011] : List Nat).getD i (2000 + i)
def laysR15 (rb : Nat) (eb : Nat) (q : Int) (s : ByteArray) (gn : Int) (mk : ByteArray) (b : ByteArray) (mk1 : ByteArray) (j : Nat) (v : Value) (_ : World) : Prop :=
  match j with
  | 0 => v = .pointer (some ⟨rb, 0, none⟩)
  | 1 => v = .pointer (some ⟨rb, 0, none⟩)
  | 2 => v = .pointer (some ⟨eb, 0, none⟩)
  | 3 => v = .int .i64 q
  | 4 => v = .agg #[.int .i64 q, .string s, .int .i64 gn, .string mk, .string b]
  | 5 => v = .string mk1
  | 6 => v = .pointer (some ⟨rb, 0, none⟩)
  | 7 => v = .pointer (some ⟨rb, 1, none⟩)
  | 9 => v = .pointer (some ⟨rb, 0, none⟩)
  | 10 => v = .pointer (some ⟨rb, 2, none⟩)
  | _ => True
set_option maxRecDepth 100000 in
set_option maxHeartbeats 4000000 in
theorem read_kept (x : Rec) (e : Ev) (w : World) (V D : Blk) (rb vb n nv : Nat) (sec : ByteArray) (many : ByteArray → Nat) (has : ByteArray → Bool) (R : RdM) (h : rdIn w D rb vb n R) (hv : vaultIn w V vb nv sec many has) (hG : Glob w (fun i => V i ∨ D i)) (ha : apart V D)
    (ht : isTold sec x e) (hm : x.gen ≤ (many x.subject : Nat)) (h1 : x.seq = R.seq + 1) (h2 : x.prev = R.mark) (hn : n ≤ 1048576) (hsq : R.seq < 1048576) (hl : lostR many has x = false) :
    Calls Tryz.prog 66 #[.pointer (some ⟨rb, 0, none⟩), .agg (recV x)] w fun r w' => r = .returned .nilIface ∧ ∃ D', rdIn w' D' rb vb (n + 1) (readM many has R x e) ∧ step w w' D D' := by
  obtain ⟨tm, h⟩ := h
  have FO := fun W hV hG => fopen_any e x W V vb nv sec many has hV hG ht hm
  unfold OpenPost openV at FO
  rw [hl, if_neg (by decide), if_neg (by decide)] at FO
  have HZ := Lib.hid ht.small
  have HRT := Lib.hid ht.right
  have HZE := Lib.hid (right_small ht.right)
  have HM := Lib.hid (show ∀ Y : RdM, Y = ⟨R.seq + 1, mkS (mkB x), stepT e R.T, R.lost⟩ → readM many has R x e = Y from fun Y hY => by rw [hY]; unfold readM; rw [hl, if_neg (by decide), if_neg (by decide)])
  have MK := fun W hR => fmark_any x W (by have := ht.small; omega) hR
  have B0 := Lib.hid h.tab
  have HD := Lib.hid h
  have HV := Lib.hid hv
  have HGL := Lib.hid hG
  have HA := Lib.hid ha
  clear h hv hG ha ht hm hl
  obtain ⟨q, s, g, p, b⟩ := x
  obtain ⟨k, u, t, r, v0⟩ := e
  unfold recV at FO MK ⊢
  unfold evV at FO
  dsimp only at h1 h2 FO MK HZ ⊢
  subst h2
  have X1 := Lib.hid (ext_alloc (.cells #[.int .i64 q, .string s, .int .i64 g, .string R.mark, .string b] 108) (ext_refl w))
  have HE := Lib.hid (heap_alloc_at w (.cells #[.int .i64 q, .string s, .int .i64 g, .string R.mark, .string b] 108))
  have B1 := Lib.hid (B0.out.ext X1.out)
  clear B0
  have d1 : decide (q ≥ 1) = true := decide_eq_true (by omega)
  have d2 : decide (q ≤ (R.seq : Int)) = false := decide_eq_false (by omega)
  have d3 : (q != (R.seq : Int) + 1) = false := by simp; omega
  have d4 : (q == (R.seq : Int) + 1) = true := by simp; omega
  have d5 : (R.mark.toList == R.mark.toList) = true := by simp
  have H1 := Lib.hid h1
  clear h1
  go_enter Tryz.func66, Tryz.ntmps66
  go_wp2_with fail
  generalize w.alloc (.cells #[.int .i64 q, .string s, .int .i64 g, .string R.mark, .string b] 108) = w1 at HE X1 B1 ⊢
  obtain ⟨c0, c1, c2, c3, c4⟩ := rec_cells (r := ⟨q, s, g, R.mark, b⟩) HE.out
  dsimp only at c0 c1 c2 c3 c4
  have le := lt_of_heap HE.out
  obtain ⟨z0, z1, z2, z4, lt⟩ := rd_cells B1.out
  refine wp_region_ext (by kernel_rfl) (by kernel_rfl) ?_
  repeat (go_big_quiet_step (fail))
  refine wpQuiet_nil ?_
  rintro _ ⟨x, rfl⟩
  have X2 := Lib.hid (ext_trans X1.out ⟨x, rfl⟩)
  have B2 := Lib.hid (B1.out.ext ⟨x, rfl⟩)
  have HE2 := Lib.hid ((ext_iff.1 ⟨x, rfl⟩ : Below w1.heap.size w1 (ext w1 x)).block _ (lt_of_heap HE.out) |>.trans HE.out)
  generalize ext w1 x = w2 at X2 B2 HE2 ⊢
  clear c0 c1 c2 c3 c4 z0 z1 z2 z4 lt le HE B1 X1
  obtain ⟨c0, c1, c2, c3, c4⟩ := rec_cells (r := ⟨q, s, g, R.mark, b⟩) HE2.out
  dsimp only at c0 c1 c2 c3 c4
  have le := lt_of_heap HE2.out
  obtain ⟨z0, z1, z2, z4, lt⟩ := rd_cells B2.out
  go_wp2_with fail
  refine wp_region_ext (by kernel_rfl) (by kernel_rfl) ?_
  repeat (go_big_quiet_step (fail))
  refine wpQuiet_nil ?_
  rintro _ ⟨x, rfl⟩
  have X3 := Lib.hid (ext_trans X2.out ⟨x, rfl⟩)
  have B3 := Lib.hid (B2.out.ext ⟨x, rfl⟩)
  have HE3 := Lib.hid ((ext_iff.1 ⟨x, rfl⟩ : Below w2.heap.size w2 (ext w2 x)).block _ (lt_of_heap HE2.out) |>.trans HE2.out)
  generalize ext w2 x = w3 at X3 B3 HE3 ⊢
  clear c0 c1 c2 c3 c4 z0 z1 z2 z4 lt le HE2 B2 X2
  obtain ⟨c0, c1, c2, c3, c4⟩ := rec_cells (r := ⟨q, s, g, R.mark, b⟩) HE3.out
  dsimp only at c0 c1 c2 c3 c4
  have le := lt_of_heap HE3.out
  obtain ⟨z0, z1, z2, z4, lt⟩ := rd_cells B3.out
  go_wp2_with fail
  refine wp_region_ext (by kernel_rfl) (by kernel_rfl) ?_
  repeat (go_big_quiet_step (fail))
  refine wpQuiet_nil ?_
  rintro _ ⟨x, rfl⟩
  have X4 := Lib.hid (ext_trans X3.out ⟨x, rfl⟩)
  have B4 := Lib.hid (B3.out.ext ⟨x, rfl⟩)
  have HE4 := Lib.hid ((ext_iff.1 ⟨x, rfl⟩ : Below w3.heap.size w3 (ext w3 x)).block _ (lt_of_heap HE3.out) |>.trans HE3.out)
  generalize ext w3 x = w4 at X4 B4 HE4 ⊢
  clear c0 c1 c2 c3 c4 z0 z1 z2 z4 lt le HE3 B3 X3
  obtain ⟨c0, c1, c2, c3, c4⟩ := rec_cells (r := ⟨q, s, g, R.mark, b⟩) HE4.out
  dsimp only at c0 c1 c2 c3 c4
  have le := lt_of_heap HE4.out
  obtain ⟨z0, z1, z2, z4, lt⟩ := rd_cells B4.out
  go_wp2_with fail
  clear c0 c1 c2 c3 c4 z0 z1 z2 z4 lt le
  have VX := Lib.hid fun W (hx : ∃ x, W = ext w x) => HV.out.ext hx
  have GX := Lib.hid fun W (hx : ∃ x, W = ext w x) => (HGL.out.ext hx).sub (fun i hi => Or.inl hi)
  refine wp_region_slots (frR7 rb w.heap.size q s g R.mark b R.seq) dstR7 (fun _ => undef) (laysR7 rb vb q s g R.mark b k u t r v0 .nilIface) (fun L g w => newA 155 w4 #[.int .i64 0, .string ⟨#[]⟩, .string ⟨#[]⟩, .string ⟨#[]⟩, .string ⟨#[]⟩] #[.int .i64 k, .string u, .string t, .string r, .string v0] (L 9) (L 10) (g 5) w) (fun w w' => True) (by kernel_rfl) (by kernel_rfl) rfl ?_ (by kernel_rfl) (newA.start _ _ _ _ _) ?_ ?_
  · exact fun _ _ _ _ _ h => h
  · refine ⟨?_, ?_, ?_, ?_, ?_, ?_, ?_, ?_, ?_, ?_, ?_, ?_, trivial⟩
    all_goals (intro L gs w1 hLi hdeps hR hC; refine ends_of fun Q hQ => ?_)
    · have HQ := fun (a' : Act) (va : Value) (w' : World) (h1 : a' = frR7 rb w.heap.size q s g R.mark b R.seq (upd1 gs 41 va)) h2 (h3 : laysR7 rb vb q s g R.mark b k u t r v0 .nilIface 0 va w') h4 => hQ.out a' w' ⟨va, h1, h2, h3, h4⟩
      unfold frR7
      go_wp2_with fail
      exact HQ _ (.pointer (some ⟨rb, 0, none⟩)) _ (by simp only [frR7, upd1, Nat.reduceEqDiff, reduceIte]) trivial rfl hC
    · have HQ := fun (a' : Act) (va : Value) (w' : World) (h1 : a' = frR7 rb w.heap.size q s g R.mark b R.seq (upd1 gs 42 va)) h2 (h3 : laysR7 rb vb q s g R.mark b k u t r v0 .nilIface 1 va w') h4 => hQ.out a' w' ⟨va, h1, h2, h3, h4⟩
      have r0 : gs 41 = .pointer (some ⟨rb, 0, none⟩) := hR 0 (hdeps ⟨0, .data⟩ (by simp) rfl)
      unfold frR7
      go_wp2_with fail
      exact HQ _ (.pointer (some ⟨rb, 0, none⟩)) _ (by simp only [frR7, upd1, r0, Nat.reduceEqDiff, reduceIte]) trivial rfl hC
    · have HQ := fun (a' : Act) (va : Value) (w' : World) (h1 : a' = frR7 rb w.heap.size q s g R.mark b R.seq (upd1 gs 43 va)) h2 (h3 : laysR7 rb vb q s g R.mark b k u t r v0 .nilIface 2 va w') h4 => hQ.out a' w' ⟨va, h1, h2, h3, h4⟩
      have r1 : gs 42 = .pointer (some ⟨rb, 0, none⟩) := hR 1 (hdeps ⟨1, .data⟩ (by simp) rfl)
      unfold frR7
      go_wp2_with fail
      exact HQ _ (.pointer (some ⟨rb, 0, none⟩)) _ (by simp only [frR7, upd1, r1, Nat.reduceEqDiff, reduceIte]) trivial rfl hC
    · have HQ := fun (a' : Act) (va : Value) (w' : World) (h1 : a' = frR7 rb w.heap.size q s g R.mark b R.seq (upd1 gs 44 va)) h2 (h3 : laysR7 rb vb q s g R.mark b k u t r v0 .nilIface 3 va w') h4 => hQ.out a' w' ⟨va, h1, h2, h3, h4⟩
      have r2 : gs 43 = .pointer (some ⟨rb, 0, none⟩) := hR 2 (hdeps ⟨2, .data⟩ (by simp) rfl)
      have b0 := (hC.1.block _ (lt_of_heap B4.out.blk)).trans B4.out.blk
      have z0 : w1.cell? ⟨rb, 0, none⟩ = some (.pointer (some ⟨vb, 0, none⟩)) := by rw [cell_in, b0]; rfl
      have lw1 : rb < w1.heap.size := lt_of_heap b0
      unfold frR7
      go_wp2_with fail
      exact HQ _ (.pointer (some ⟨vb, 0, none⟩)) _ (by simp only [frR7, upd1, r2, Nat.reduceEqDiff, reduceIte]) trivial rfl hC
    · have HQ := fun (a' : Act) (va : Value) (w' : World) (h1 : a' = frR7 rb w.heap.size q s g R.mark b R.seq (upd1 gs 45 va)) h2 (h3 : laysR7 rb vb q s g R.mark b k u t r v0 .nilIface 4 va w') h4 => hQ.out a' w' ⟨va, h1, h2, h3, h4⟩
      have b0 := (hC.1.block _ (lt_of_heap HE4.out)).trans HE4.out
      obtain ⟨c0, c1, c2, c3, c4⟩ := rec_cells (r := ⟨q, s, g, R.mark, b⟩) b0
      dsimp only at c0 c1 c2 c3 c4
      have lw1 := lt_of_heap b0
      unfold frR7
      go_wp2_with fail
      exact HQ _ (.agg #[.int .i64 q, .string s, .int .i64 g, .string R.mark, .string b]) _ (by simp only [frR7, upd1, Nat.reduceEqDiff, reduceIte]) trivial rfl hC
    · have HQ := fun (a' : Act) (va : Value) (w' : World) (h1 : a' = frR7 rb w.heap.size q s g R.mark b R.seq (upd1 gs 46 va)) h2 (h3 : laysR7 rb vb q s g R.mark b k u t r v0 .nilIface 5 va w') h4 => hQ.out a' w' ⟨va, h1, h2, h3, h4⟩
      have r3 : gs 44 = .pointer (some ⟨vb, 0, none⟩) := hR 3 (hdeps ⟨3, .data⟩ (by simp) rfl)
      have r4 : gs 45 = .agg #[.int .i64 q, .string s, .int .i64 g, .string R.mark, .string b] := hR 4 (hdeps ⟨4, .data⟩ (by simp) rfl)
      unfold frR7
      go_wp2_with fail
      refine (FO w1 (VX.out w1 (ext_trans X4.out (ext_of hC.1))) (GX.out w1 (ext_trans X4.out (ext_of hC.1)))).mono ?_
      rintro _ w5 ⟨rfl, hx⟩
      go_wp2_with fail
      exact HQ _ (.tuple #[.agg #[.int .i64 k, .string u, .string t, .string r, .string v0], .nilIface]) _ (by simp only [frR7, upd1, r3, r4, Nat.reduceEqDiff, reduceIte]) trivial rfl (newA.ext hC hx)
    · have HQ := fun (a' : Act) (va : Value) (w' : World) (h1 : a' = frR7 rb w.heap.size q s g R.mark b R.seq (upd1 gs 40 va)) h2 (h3 : laysR7 rb vb q s g R.mark b k u t r v0 .nilIface 6 va w') h4 => hQ.out a' w' ⟨va, h1, h2, h3, h4⟩
      have r5 : gs 46 = .tuple #[.agg #[.int .i64 k, .string u, .string t, .string r, .string v0], .nilIface] := hR 5 (hdeps ⟨5, .data⟩ (by simp) rfl)
      unfold frR7
      go_wp2_with fail
      exact HQ _ (.tuple #[.agg #[.int .i64 k, .string u, .string t, .string r, .string v0], .nilIface]) _ (by simp only [frR7, upd1, r5, Nat.reduceEqDiff, reduceIte]) trivial rfl hC
    · have HQ := fun (a' : Act) (va : Value) (w' : World) (h1 : a' = frR7 rb w.heap.size q s g R.mark b R.seq (upd1 gs 47 va)) h2 (h3 : laysR7 rb vb q s g R.mark b k u t r v0 .nilIface 7 va w') h4 => hQ.out a' w' ⟨va, h1, h2, h3, h4⟩
      have r6 : gs 40 = .tuple #[.agg #[.int .i64 k, .string u, .string t, .string r, .string v0], .nilIface] := hR 6 (hdeps ⟨6, .data⟩ (by simp) rfl)
      unfold frR7
      go_wp2_with fail
      exact HQ _ (.agg #[.int .i64 k, .string u, .string t, .string r, .string v0]) _ (by simp only [frR7, upd1, r6, Nat.reduceEqDiff, reduceIte]) trivial rfl hC
    · have HQ := fun (a' : Act) (va : Value) (w' : World) (h1 : a' = frR7 rb w.heap.size q s g R.mark b R.seq (upd1 gs 48 va)) h2 (h3 : laysR7 rb vb q s g R.mark b k u t r v0 .nilIface 8 va w') h4 => hQ.out a' w' ⟨va, h1, h2, h3, h4⟩
      have r6 : gs 40 = .tuple #[.agg #[.int .i64 k, .string u, .string t, .string r, .string v0], .nilIface] := hR 6 (hdeps ⟨6, .data⟩ (by simp) rfl)
      unfold frR7
      go_wp2_with fail
      exact HQ _ (.nilIface) _ (by simp only [frR7, upd1, r6, Nat.reduceEqDiff, reduceIte]) trivial rfl hC
    · have HQ := fun (a' : Act) (va : Value) (w' : World) (h1 : a' = frR7 rb w.heap.size q s g R.mark b R.seq (upd1 gs 5 va)) h2 (h3 : laysR7 rb vb q s g R.mark b k u t r v0 .nilIface 9 va w') h4 => hQ.out a' w' ⟨va, h1, h2, h3, h4⟩
      unfold frR7
      go_wp2_with fail
      exact HQ _ (.pointer (some ⟨w1.heap.size, 0, none⟩)) _ (by simp only [frR7, upd1, Nat.reduceEqDiff, reduceIte]) trivial ⟨_, rfl⟩ (newA.made hC hLi)
    · have HQ := fun (a' : Act) (va : Value) (w' : World) (h1 : a' = frR7 rb w.heap.size q s g R.mark b R.seq (upd1 gs 1010 va)) h2 (h3 : laysR7 rb vb q s g R.mark b k u t r v0 .nilIface 10 va w') h4 => hQ.out a' w' ⟨va, h1, h2, h3, h4⟩
      have r7 : gs 47 = .agg #[.int .i64 k, .string u, .string t, .string r, .string v0] := hR 7 (hdeps ⟨7, .data⟩ (by simp) rfl)
      have r9 := hR 9 (hdeps ⟨9, .data⟩ (by simp) rfl)
      obtain ⟨p, hp⟩ := r9
      change gs 5 = _ at hp
      have l9 : L 9 = true := hdeps ⟨9, .data⟩ (by simp) rfl
      obtain ⟨p', hp', hpl, hpb⟩ := hC.2.2 l9
      rw [hp] at hp'
      injection hp' with hp'
      injection hp' with hp'
      injection hp' with hp'
      subst hp'
      rw [show L 10 = false from hLi] at hpb
      have hpb : w1.heap[p]? = some (.cells #[.int .i64 0, .string ⟨#[]⟩, .string ⟨#[]⟩, .string ⟨#[]⟩, .string ⟨#[]⟩] 155 (0, 0)) := hpb
      have lw1 := lt_of_heap hpb
      have ff := free_of_heap hpb
      have HH := Lib.hid (setEvAt hpb (.int .i64 k) (.string u) (.string t) (.string r) (.string v0))
      obtain ⟨y0, y1, y2, y3, y4⟩ := ev_cells hpb
      clear hpb
      unfold frR7
      go_wp2_with fail
      exact HQ _ undef _ (by simp only [frR7, upd1, r7, hp, Nat.reduceEqDiff, reduceIte]) trivial trivial (newA.put hC l9 hp HH.out.1 HH.out.2)
    · have HQ := fun (a' : Act) (va : Value) (w' : World) (h1 : a' = frR7 rb w.heap.size q s g R.mark b R.seq (upd1 gs 6 va)) h2 (h3 : laysR7 rb vb q s g R.mark b k u t r v0 .nilIface 11 va w') h4 => hQ.out a' w' ⟨va, h1, h2, h3, h4⟩
      have r8 : gs 48 = .nilIface := hR 8 (hdeps ⟨8, .data⟩ (by simp) rfl)
      unfold frR7
      go_wp2_with fail
      exact HQ _ (.nilIface) _ (by simp only [frR7, upd1, r8, Nat.reduceEqDiff, reduceIte]) trivial rfl hC
  intro L7 g7 w5 hall hR hC

  obtain ⟨p5, hp5, hpl, hpb⟩ := hC.2.2 (hall 9 (by decide))
  rw [hall 10 (by decide), if_pos rfl] at hpb
  have EB5 := Lib.hid hpb
  have s6 : g7 6 = .nilIface := hR 11 (by decide)
  have X5 := Lib.hid (ext_trans X4.out (ext_of hC.1))
  have B5 := Lib.hid (B4.out.ext (ext_of hC.1))
  have HE5 := Lib.hid ((hC.1.block _ (lt_of_heap HE4.out)).trans HE4.out)
  have P5 := Lib.hid (show w.heap.size < p5 from Nat.lt_of_lt_of_le (lt_of_heap HE4.out) hpl)
  clear hC hall hR hpb hpl HE4 B4 X4
  unfold frR7
  rw [hp5, s6]
  clear hp5 s6
  go_wp2_with fail
  refine (tell_any .nilIface .nil w5 (GX.out w5 X5.out).err).mono ?_
  rintro _ w6 ⟨rfl, hx⟩
  have X6 := Lib.hid (ext_trans X5.out hx)
  have B6 := Lib.hid (B5.out.ext hx)
  have HE6 := Lib.hid (((ext_iff.1 hx).block _ (lt_of_heap HE5.out)).trans HE5.out)
  have EB6 := Lib.hid (((ext_iff.1 hx).block _ (lt_of_heap EB5.out)).trans EB5.out)
  clear hx X5 B5 HE5 EB5
  obtain ⟨y0, y1, y2, y3, y4⟩ := ev_cells EB6.out
  have ly := lt_of_heap EB6.out
  obtain ⟨z0, z1, z2, z4, lt⟩ := rd_cells B6.out
  go_wp2_with fail
  refine wp_region_tail 4 (by kernel_rfl) (by kernel_rfl) ?_
  simp only [List.take_succ_cons, List.take_zero, List.drop_succ_cons, List.drop_zero]
  repeat (go_big_quiet_step (fail))
  refine wpQuiet_nil ?_
  rintro _ ⟨x, rfl⟩
  have hx : ∃ x', ext w6 x = ext w6 x' := ⟨x, rfl⟩
  have X7 := Lib.hid (ext_trans X6.out hx)
  have B7 := Lib.hid (B6.out.ext hx)
  have HE7 := Lib.hid (((ext_iff.1 hx).block _ (lt_of_heap HE6.out)).trans HE6.out)
  generalize ext w6 x = w7 at X7 B7 HE7 ⊢
  clear hx X6 B6 HE6 EB6 y0 y1 y2 y3 y4 ly z0 z1 z2 z4 lt
  have AP := apply_any ⟨k, u, t, r, v0⟩ w7 rb 3 (HR vb R.seq R.mark R.lost) rfl tm n R.T B7.out hn HZE.out
  unfold evV at AP
  rw [HRT.out, if_pos rfl] at AP
  dsimp only at AP
  go_wp2_with fail
  refine AP.mono ?_
  rintro _ w8 ⟨rfl, tm8, t1, t2, t3, kp⟩
  have B8 := Lib.hid t1
  have ST8 := Lib.hid (step.of_kept2 (D := D) kp HD.out.rb_ HD.out.tm_ t1 t2 t3)
  have HE8 := Lib.hid ((kp.block _ (lt_of_heap HE7.out) (fun e => by have := HD.out.lt _ HD.out.rb_; omega) (fun e => by have := HD.out.lt _ (HD.out.tm_ _ e.symm); omega)).trans HE7.out)
  have RB8 := Lib.hid (show w8.heap[rb]? = some (.cells #[.pointer (some ⟨vb, 0, none⟩), .int .i64 R.seq, .string R.mark, .map tm8, .int .i64 R.lost] 164 (0, 0)) from t1.blk)
  have NE := Lib.hid (show w.heap.size ≠ rb from fun e => by have := HD.out.lt _ HD.out.rb_; omega)
  have ST := Lib.hid ((step.of_ext D X7.out).trans ST8.out)
  have GY := Lib.hid fun W (hg : w8.grownBy W (some rb)) => ((HGL.out.step (((step.of_ext D X7.out).trans ST8.out).lift (fun i hi => Or.inr hi))).step (.of_grown hg (fun j hj => by cases hj; exact Or.inl (Or.inr HD.out.rb_)))).rounds
  clear AP t1 t2 t3 kp B7 X7 HE7
  generalize hmk : (⟨(mkB ⟨q, s, g, R.mark, b⟩).toArray⟩ : ByteArray) = MK1 at MK
  go_wp2_with fail
  refine wp_region_slots (frR15 rb w.heap.size p5 q s g R.mark b R.seq k u t r v0 (errNum .nilIface) g7) dstR15 (fun _ => undef) (laysR15 rb w.heap.size q s g R.mark b MK1) (fun L g w => stR w8 rb vb R.seq q R.mark MK1 tm8 R.lost (L 8) (L 11) w) (fun w w' => True) (by kernel_rfl) (by kernel_rfl) rfl ?_ (by kernel_rfl) ⟨grown_drawn _ _ _, RB8.out⟩ ?_ ?_
  · exact fun _ _ _ _ _ h => h
  · refine ⟨?_, ?_, ?_, ?_, ?_, ?_, ?_, ?_, ?_, ?_, ?_, ?_, trivial⟩
    all_goals (intro L gs w1 hLi hdeps hR hC; refine ends_of fun Q hQ => ?_)
    · have HQ := fun (a' : Act) (va : Value) (w' : World) (h1 : a' = frR15 rb w.heap.size p5 q s g R.mark b R.seq k u t r v0 (errNum .nilIface) g7 (upd1 gs 72 va)) h2 (h3 : laysR15 rb w.heap.size q s g R.mark b MK1 0 va w') h4 => hQ.out a' w' ⟨va, h1, h2, h3, h4⟩
      unfold frR15
      go_wp2_with fail
      exact HQ _ (.pointer (some ⟨rb, 0, none⟩)) _ (by simp only [frR15, upd1, Nat.reduceEqDiff, reduceIte]) trivial rfl hC
    · have HQ := fun (a' : Act) (va : Value) (w' : World) (h1 : a' = frR15 rb w.heap.size p5 q s g R.mark b R.seq k u t r v0 (errNum .nilIface) g7 (upd1 gs 73 va)) h2 (h3 : laysR15 rb w.heap.size q s g R.mark b MK1 1 va w') h4 => hQ.out a' w' ⟨va, h1, h2, h3, h4⟩
      unfold frR15
      go_wp2_with fail
      exact HQ _ (.pointer (some ⟨rb, 0, none⟩)) _ (by simp only [frR15, upd1, Nat.reduceEqDiff, reduceIte]) trivial rfl hC
    · have HQ := fun (a' : Act) (va : Value) (w' : World) (h1 : a' = frR15 rb w.heap.size p5 q s g R.mark b R.seq k u t r v0 (errNum .nilIface) g7 (upd1 gs 74 va)) h2 (h3 : laysR15 rb w.heap.size q s g R.mark b MK1 2 va w') h4 => hQ.out a' w' ⟨va, h1, h2, h3, h4⟩
      unfold frR15
      go_wp2_with fail
      exact HQ _ (.pointer (some ⟨w.heap.size, 0, none⟩)) _ (by simp only [frR15, upd1, Nat.reduceEqDiff, reduceIte]) trivial rfl hC
    · have HQ := fun (a' : Act) (va : Value) (w' : World) (h1 : a' = frR15 rb w.heap.size p5 q s g R.mark b R.seq k u t r v0 (errNum .nilIface) g7 (upd1 gs 75 va)) h2 (h3 : laysR15 rb w.heap.size q s g R.mark b MK1 3 va w') h4 => hQ.out a' w' ⟨va, h1, h2, h3, h4⟩
      have r2 : gs 74 = .pointer (some ⟨w.heap.size, 0, none⟩) := hR 2 (hdeps ⟨2, .data⟩ (by simp) rfl)
      have b0 := (hC.1.block _ (lt_of_heap HE8.out) (by intro e; injection e with e; exact NE.out e)).trans HE8.out
      obtain ⟨c0, c1, c2, c3, c4⟩ := rec_cells (r := ⟨q, s, g, R.mark, b⟩) b0
      dsimp only at c0 c1 c2 c3 c4
      have lw1 := lt_of_heap b0
      unfold frR15
      go_wp2_with fail
      exact HQ _ (.int .i64 q) _ (by simp only [frR15, upd1, r2, Nat.reduceEqDiff, reduceIte]) trivial rfl hC
    · have HQ := fun (a' : Act) (va : Value) (w' : World) (h1 : a' = frR15 rb w.heap.size p5 q s g R.mark b R.seq k u t r v0 (errNum .nilIface) g7 (upd1 gs 76 va)) h2 (h3 : laysR15 rb w.heap.size q s g R.mark b MK1 4 va w') h4 => hQ.out a' w' ⟨va, h1, h2, h3, h4⟩
      have b0 := (hC.1.block _ (lt_of_heap HE8.out) (by intro e; injection e with e; exact NE.out e)).trans HE8.out
      obtain ⟨c0, c1, c2, c3, c4⟩ := rec_cells (r := ⟨q, s, g, R.mark, b⟩) b0
      dsimp only at c0 c1 c2 c3 c4
      have lw1 := lt_of_heap b0
      unfold frR15
      go_wp2_with fail
      exact HQ _ (.agg #[.int .i64 q, .string s, .int .i64 g, .string R.mark, .string b]) _ (by simp only [frR15, upd1, Nat.reduceEqDiff, reduceIte]) trivial rfl hC
    · have HQ := fun (a' : Act) (va : Value) (w' : World) (h1 : a' = frR15 rb w.heap.size p5 q s g R.mark b R.seq k u t r v0 (errNum .nilIface) g7 (upd1 gs 77 va)) h2 (h3 : laysR15 rb w.heap.size q s g R.mark b MK1 5 va w') h4 => hQ.out a' w' ⟨va, h1, h2, h3, h4⟩
      have r4 : gs 76 = .agg #[.int .i64 q, .string s, .int .i64 g, .string R.mark, .string b] := hR 4 (hdeps ⟨4, .data⟩ (by simp) rfl)
      unfold frR15
      go_wp2_with fail
      refine (MK w1 (GY.out w1 hC.1)).mono ?_
      rintro _ wn ⟨rfl, hx⟩
      go_wp2_with fail
      exact HQ _ (.string MK1) _ (by simp only [frR15, upd1, r4, Nat.reduceEqDiff, reduceIte]) trivial rfl (hC.ext hx)
    · have HQ := fun (a' : Act) (va : Value) (w' : World) (h1 : a' = frR15 rb w.heap.size p5 q s g R.mark b R.seq k u t r v0 (errNum .nilIface) g7 (upd1 gs 78 va)) h2 (h3 : laysR15 rb w.heap.size q s g R.mark b MK1 6 va w') h4 => hQ.out a' w' ⟨va, h1, h2, h3, h4⟩
      have r0 : gs 72 = .pointer (some ⟨rb, 0, none⟩) := hR 0 (hdeps ⟨0, .data⟩ (by simp) rfl)
      unfold frR15
      go_wp2_with fail
      exact HQ _ (.pointer (some ⟨rb, 0, none⟩)) _ (by simp only [frR15, upd1, r0, Nat.reduceEqDiff, reduceIte]) trivial rfl hC
    · have HQ := fun (a' : Act) (va : Value) (w' : World) (h1 : a' = frR15 rb w.heap.size p5 q s g R.mark b R.seq k u t r v0 (errNum .nilIface) g7 (upd1 gs 79 va)) h2 (h3 : laysR15 rb w.heap.size q s g R.mark b MK1 7 va w') h4 => hQ.out a' w' ⟨va, h1, h2, h3, h4⟩
      have r6 : gs 78 = .pointer (some ⟨rb, 0, none⟩) := hR 6 (hdeps ⟨6, .data⟩ (by simp) rfl)
      unfold frR15
      go_wp2_with fail
      exact HQ _ (.pointer (some ⟨rb, 1, none⟩)) _ (by simp only [frR15, upd1, r6, Nat.reduceEqDiff, reduceIte]) trivial rfl hC
    · have HQ := fun (a' : Act) (va : Value) (w' : World) (h1 : a' = frR15 rb w.heap.size p5 q s g R.mark b R.seq k u t r v0 (errNum .nilIface) g7 (upd1 gs 1008 va)) h2 (h3 : laysR15 rb w.heap.size q s g R.mark b MK1 8 va w') h4 => hQ.out a' w' ⟨va, h1, h2, h3, h4⟩
      have r3 : gs 75 = .int .i64 q := hR 3 (hdeps ⟨3, .data⟩ (by simp) rfl)
      have r7 : gs 79 = .pointer (some ⟨rb, 1, none⟩) := hR 7 (hdeps ⟨7, .data⟩ (by simp) rfl)
      have b0 := hC.2
      have ff := free_of_heap b0
      have lw1 := lt_of_heap b0
      generalize hzz : (if L 8 = true then q else (R.seq : Int)) = zz at b0
      generalize hmm : (if L 11 = true then MK1 else R.mark) = zm at b0
      have z1 : w1.cell? ⟨rb, 1, none⟩ = some (.int .i64 zz) := by rw [cell_in, b0]; rfl
      have z2 : w1.cell? ⟨rb, 2, none⟩ = some (.string zm) := by rw [cell_in, b0]; rfl
      clear b0 hzz hmm
      unfold frR15
      go_wp2_with fail
      exact HQ _ undef _ (by simp only [frR15, upd1, r3, r7, Nat.reduceEqDiff, reduceIte]) trivial trivial (stR.seq hC)
    · have HQ := fun (a' : Act) (va : Value) (w' : World) (h1 : a' = frR15 rb w.heap.size p5 q s g R.mark b R.seq k u t r v0 (errNum .nilIface) g7 (upd1 gs 80 va)) h2 (h3 : laysR15 rb w.heap.size q s g R.mark b MK1 9 va w') h4 => hQ.out a' w' ⟨va, h1, h2, h3, h4⟩
      have r1 : gs 73 = .pointer (some ⟨rb, 0, none⟩) := hR 1 (hdeps ⟨1, .data⟩ (by simp) rfl)
      unfold frR15
      go_wp2_with fail
      exact HQ _ (.pointer (some ⟨rb, 0, none⟩)) _ (by simp only [frR15, upd1, r1, Nat.reduceEqDiff, reduceIte]) trivial rfl hC
    · have HQ := fun (a' : Act) (va : Value) (w' : World) (h1 : a' = frR15 rb w.heap.size p5 q s g R.mark b R.seq k u t r v0 (errNum .nilIface) g7 (upd1 gs 81 va)) h2 (h3 : laysR15 rb w.heap.size q s g R.mark b MK1 10 va w') h4 => hQ.out a' w' ⟨va, h1, h2, h3, h4⟩
      have r9 : gs 80 = .pointer (some ⟨rb, 0, none⟩) := hR 9 (hdeps ⟨9, .data⟩ (by simp) rfl)
      unfold frR15
      go_wp2_with fail
      exact HQ _ (.pointer (some ⟨rb, 2, none⟩)) _ (by simp only [frR15, upd1, r9, Nat.reduceEqDiff, reduceIte]) trivial rfl hC
    · have HQ := fun (a' : Act) (va : Value) (w' : World) (h1 : a' = frR15 rb w.heap.size p5 q s g R.mark b R.seq k u t r v0 (errNum .nilIface) g7 (upd1 gs 1011 va)) h2 (h3 : laysR15 rb w.heap.size q s g R.mark b MK1 11 va w') h4 => hQ.out a' w' ⟨va, h1, h2, h3, h4⟩
      have r5 : gs 77 = .string MK1 := hR 5 (hdeps ⟨5, .data⟩ (by simp) rfl)
      have r10 : gs 81 = .pointer (some ⟨rb, 2, none⟩) := hR 10 (hdeps ⟨10, .data⟩ (by simp) rfl)
      have b0 := hC.2
      have ff := free_of_heap b0
      have lw1 := lt_of_heap b0
      generalize hzz : (if L 8 = true then q else (R.seq : Int)) = zz at b0
      generalize hmm : (if L 11 = true then MK1 else R.mark) = zm at b0
      have z1 : w1.cell? ⟨rb, 1, none⟩ = some (.int .i64 zz) := by rw [cell_in, b0]; rfl
      have z2 : w1.cell? ⟨rb, 2, none⟩ = some (.string zm) := by rw [cell_in, b0]; rfl
      clear b0 hzz hmm
      unfold frR15
      go_wp2_with fail
      exact HQ _ undef _ (by simp only [frR15, upd1, r5, r10, Nat.reduceEqDiff, reduceIte]) trivial trivial (stR.mark hC)
  intro L9 g9 w9 hall hR hC

  have HC := hC
  rw [hall 8 (by decide), hall 11 (by decide)] at HC
  have RB9 := Lib.hid HC
  clear hC hall hR HC
  unfold frR15
  go_wp2_with fail
  go_ret
  obtain ⟨h9, hb9⟩ := RB9.out
  have hq : q = ((R.seq + 1 : Nat) : Int) := by have := H1.out; omega
  rw [if_pos rfl, if_pos rfl, hq, ← hmk] at hb9
  refine ⟨rfl, fun i => D i ∨ tm8 = some i, ?_, ST.out.trans (.of_grown h9 (fun j hj => by cases hj; exact Or.inl HD.out.rb_))⟩
  rw [HM.out _ rfl]
  have nt : ∀ c, tm8 = some c → some c ≠ some rb := fun c hc e => by injection e with e; subst e; have := B8.out; rw [hc] at this; exact this.ne rfl
  have szz := h9.size
  exact ⟨tm8, ⟨hb9, (fun e => by have := B8.out.nil e; unfold applyT at this; rw [HRT.out, if_pos rfl] at this; exact this), (fun c hc => by have := (B8.out.map c hc).kept h9 (nt c hc); unfold applyT at this; rw [HRT.out, if_pos rfl] at this; exact this)⟩, .inl HD.out.rb_, (fun c hc => .inr hc), (by
    rintro i (hi | hi)
    · have := HD.out.lt i hi; have := ST.out.size; omega
    · have := (B8.out.map i hi).lt; omega), (by show R.seq + 1 ≤ 1048576; omega), (by show R.lost ≤ R.seq + 1; have := HD.out.lo; omega)⟩
def frR15L (rb : Nat) (eb : Nat) (p5 : Nat) (q : Int) (s : ByteArray) (gn : Int) (mk : ByteArray) (b : ByteArray) (sq : Int) (g7 : Nat → Value) (lo : Int) (g : Nat → Value) : Act := { tmps := #[.pointer (some ⟨rb, 0, none⟩), .agg #[.int .i64 q, .string s, .int .i64 gn, .string mk, .string b], undef, .pointer (some ⟨eb, 0, none⟩), .nilIface, .pointer (some ⟨p5, 0, none⟩), .iface 53 (.int .i64 8), undef, .bool false, .pointer (some ⟨eb, 0, none⟩), .int .i64 q, .bool true, .bool true, .pointer (some ⟨eb, 0, none⟩), .int .i64 q, .pointer (some ⟨rb, 0, none⟩), .pointer (some ⟨rb, 0, none⟩), .pointer (some ⟨rb, 1, none⟩), .int .i64 sq, .bool false, .bool false, .bool false, .pointer (some ⟨eb, 0, none⟩), .int .i64 q, .pointer (some ⟨rb, 0, none⟩), .pointer (some ⟨rb, 0, none⟩), .pointer (some ⟨rb, 1, none⟩), .int .i64 sq, .int .i64 (sq + 1), .bool false, undef, .bool false, .pointer (some ⟨eb, 3, none⟩), .string mk, .pointer (some ⟨rb, 0, none⟩), .pointer (some ⟨rb, 0, none⟩), .pointer (some ⟨rb, 2, none⟩), .string mk, .bool false, undef, g7 40, g7 41, g7 42, g7 43, g7 44, g7 45, g7 46, g7 47, g7 48, undef, undef, undef, undef, undef, undef, undef, undef, .bool true, .iface 53 (.int .i64 8), .int .i64 8, .bool true, .pointer (some ⟨rb, 0, none⟩), .pointer (some ⟨rb, 0, none⟩), .pointer (some ⟨rb, 4, none⟩), .int .i64 lo, .int .i64 (lo + 1), .pointer (some ⟨rb, 0, none⟩), .pointer (some ⟨rb, 4, none⟩), undef, undef, undef, undef, g 72, g 73, g 74, g 75, g 76, g 77, g 78, g 79, g 80, g 81], defers := [] }
def dstR15L (i : Nat) : Nat := ([72, 73, 74, 75, 76, 77, 78, 79, 1008, 80, 81, 1011] : List Nat).getD i (2000 + i)
def laysR15L (rb : Nat) (eb : Nat) (q : Int) (s : ByteArray) (gn : Int) (mk : ByteArray) (b : ByteArray) (mk1 : ByteArray) (j : Nat) (v : Value) (_ : World) : Prop :=
  match j with
  | 0 => v = .pointer (some ⟨rb, 0, none⟩)
  | 1 => v = .pointer (some ⟨rb, 0, none⟩)
  | 2 => v = .pointer (some ⟨eb, 0, none⟩)
  | 3 => v = .int .i64 q
  | 4 => v = .agg #[.int .i64 q, .string s, .int .i64 gn, .string mk, .string b]
  | 5 => v = .string mk1
  | 6 => v = .pointer (some ⟨rb, 0, none⟩)
  | 7 => v = .pointer (some ⟨rb, 1, none⟩)
  | 9 => v = .pointer (some ⟨rb, 0, none⟩)
  | 10 => v = .pointer (some ⟨rb, 2, none⟩)
  | _ => True
set_option maxRecDepth 100000 in
set_option maxHeartbeats 4000000 in
theorem read_lost (x : Rec) (e : Ev) (w : World) (V D : Blk) (rb vb n nv : Nat) (sec : ByteArray) (many : ByteArray → Nat) (has : ByteArray → Bool) (R : RdM) (h : rdIn w D rb vb n R) (hv : vaultIn w V vb nv sec many has) (hG : Glob w (fun i => V i ∨ D i)) (ha : apart V D)
    (ht : isTold sec x e) (hm : x.gen ≤ (many x.subject : Nat)) (h1 : x.seq = R.seq + 1) (h2 : x.prev = R.mark) (_ : n ≤ 1048576) (hsq : R.seq < 1048576) (hl : lostR many has x = true) :
    Calls Tryz.prog 66 #[.pointer (some ⟨rb, 0, none⟩), .agg (recV x)] w fun r w' => r = .returned .nilIface ∧ ∃ D', rdIn w' D' rb vb (n + 1) (readM many has R x e) ∧ step w w' D D' := by
  obtain ⟨tm, h⟩ := h
  have FO := fun W hV hG => fopen_any e x W V vb nv sec many has hV hG ht hm
  unfold OpenPost openV at FO
  rw [hl, if_pos rfl, if_pos rfl] at FO
  have HZ := Lib.hid ht.small
  have HRT := Lib.hid ht.right
  have HZE := Lib.hid (right_small ht.right)
  have HM := Lib.hid (show ∀ Y : RdM, Y = ⟨R.seq + 1, mkS (mkB x), R.T, R.lost + 1⟩ → readM many has R x e = Y from fun Y hY => by rw [hY]; unfold readM; rw [hl, if_pos rfl, if_pos rfl])
  have MK := fun W hR => fmark_any x W (by have := ht.small; omega) hR
  have B0 := Lib.hid h.tab
  have HD := Lib.hid h
  have HV := Lib.hid hv
  have HGL := Lib.hid hG
  have HA := Lib.hid ha
  clear h hv hG ha ht hm hl
  obtain ⟨q, s, g, p, b⟩ := x
  generalize zeroE = ze at FO
  obtain ⟨k, u, t, r, v0⟩ := ze
  unfold recV at FO MK ⊢
  unfold evV errV at FO
  dsimp only at FO
  dsimp only at h1 h2 FO MK HZ ⊢
  subst h2
  have X1 := Lib.hid (ext_alloc (.cells #[.int .i64 q, .string s, .int .i64 g, .string R.mark, .string b] 108) (ext_refl w))
  have HE := Lib.hid (heap_alloc_at w (.cells #[.int .i64 q, .string s, .int .i64 g, .string R.mark, .string b] 108))
  have B1 := Lib.hid (B0.out.ext X1.out)
  clear B0
  have d1 : decide (q ≥ 1) = true := decide_eq_true (by omega)
  have d2 : decide (q ≤ (R.seq : Int)) = false := decide_eq_false (by omega)
  have d3 : (q != (R.seq : Int) + 1) = false := by simp; omega
  have d4 : (q == (R.seq : Int) + 1) = true := by simp; omega
  have d5 : (R.mark.toList == R.mark.toList) = true := by simp
  have H1 := Lib.hid h1
  clear h1
  go_enter Tryz.func66, Tryz.ntmps66
  go_wp2_with fail
  generalize w.alloc (.cells #[.int .i64 q, .string s, .int .i64 g, .string R.mark, .string b] 108) = w1 at HE X1 B1 ⊢
  obtain ⟨c0, c1, c2, c3, c4⟩ := rec_cells (r := ⟨q, s, g, R.mark, b⟩) HE.out
  dsimp only at c0 c1 c2 c3 c4
  have le := lt_of_heap HE.out
  obtain ⟨z0, z1, z2, z4, lt⟩ := rd_cells B1.out
  refine wp_region_ext (by kernel_rfl) (by kernel_rfl) ?_
  repeat (go_big_quiet_step (fail))
  refine wpQuiet_nil ?_
  rintro _ ⟨x, rfl⟩
  have X2 := Lib.hid (ext_trans X1.out ⟨x, rfl⟩)
  have B2 := Lib.hid (B1.out.ext ⟨x, rfl⟩)
  have HE2 := Lib.hid ((ext_iff.1 ⟨x, rfl⟩ : Below w1.heap.size w1 (ext w1 x)).block _ (lt_of_heap HE.out) |>.trans HE.out)
  generalize ext w1 x = w2 at X2 B2 HE2 ⊢
  clear c0 c1 c2 c3 c4 z0 z1 z2 z4 lt le HE B1 X1
  obtain ⟨c0, c1, c2, c3, c4⟩ := rec_cells (r := ⟨q, s, g, R.mark, b⟩) HE2.out
  dsimp only at c0 c1 c2 c3 c4
  have le := lt_of_heap HE2.out
  obtain ⟨z0, z1, z2, z4, lt⟩ := rd_cells B2.out
  go_wp2_with fail
  refine wp_region_ext (by kernel_rfl) (by kernel_rfl) ?_
  repeat (go_big_quiet_step (fail))
  refine wpQuiet_nil ?_
  rintro _ ⟨x, rfl⟩
  have X3 := Lib.hid (ext_trans X2.out ⟨x, rfl⟩)
  have B3 := Lib.hid (B2.out.ext ⟨x, rfl⟩)
  have HE3 := Lib.hid ((ext_iff.1 ⟨x, rfl⟩ : Below w2.heap.size w2 (ext w2 x)).block _ (lt_of_heap HE2.out) |>.trans HE2.out)
  generalize ext w2 x = w3 at X3 B3 HE3 ⊢
  clear c0 c1 c2 c3 c4 z0 z1 z2 z4 lt le HE2 B2 X2
  obtain ⟨c0, c1, c2, c3, c4⟩ := rec_cells (r := ⟨q, s, g, R.mark, b⟩) HE3.out
  dsimp only at c0 c1 c2 c3 c4
  have le := lt_of_heap HE3.out
  obtain ⟨z0, z1, z2, z4, lt⟩ := rd_cells B3.out
  go_wp2_with fail
  refine wp_region_ext (by kernel_rfl) (by kernel_rfl) ?_
  repeat (go_big_quiet_step (fail))
  refine wpQuiet_nil ?_
  rintro _ ⟨x, rfl⟩
  have X4 := Lib.hid (ext_trans X3.out ⟨x, rfl⟩)
  have B4 := Lib.hid (B3.out.ext ⟨x, rfl⟩)
  have HE4 := Lib.hid ((ext_iff.1 ⟨x, rfl⟩ : Below w3.heap.size w3 (ext w3 x)).block _ (lt_of_heap HE3.out) |>.trans HE3.out)
  generalize ext w3 x = w4 at X4 B4 HE4 ⊢
  clear c0 c1 c2 c3 c4 z0 z1 z2 z4 lt le HE3 B3 X3
  obtain ⟨c0, c1, c2, c3, c4⟩ := rec_cells (r := ⟨q, s, g, R.mark, b⟩) HE4.out
  dsimp only at c0 c1 c2 c3 c4
  have le := lt_of_heap HE4.out
  obtain ⟨z0, z1, z2, z4, lt⟩ := rd_cells B4.out
  go_wp2_with fail
  clear c0 c1 c2 c3 c4 z0 z1 z2 z4 lt le
  have VX := Lib.hid fun W (hx : ∃ x, W = ext w x) => HV.out.ext hx
  have GX := Lib.hid fun W (hx : ∃ x, W = ext w x) => (HGL.out.ext hx).sub (fun i hi => Or.inl hi)
  refine wp_region_slots (frR7 rb w.heap.size q s g R.mark b R.seq) dstR7 (fun _ => undef) (laysR7 rb vb q s g R.mark b k u t r v0 (.iface 53 (.int .i64 8))) (fun L g w => newA 155 w4 #[.int .i64 0, .string ⟨#[]⟩, .string ⟨#[]⟩, .string ⟨#[]⟩, .string ⟨#[]⟩] #[.int .i64 k, .string u, .string t, .string r, .string v0] (L 9) (L 10) (g 5) w) (fun w w' => True) (by kernel_rfl) (by kernel_rfl) rfl ?_ (by kernel_rfl) (newA.start _ _ _ _ _) ?_ ?_
  · exact fun _ _ _ _ _ h => h
  · refine ⟨?_, ?_, ?_, ?_, ?_, ?_, ?_, ?_, ?_, ?_, ?_, ?_, trivial⟩
    all_goals (intro L gs w1 hLi hdeps hR hC; refine ends_of fun Q hQ => ?_)
    · have HQ := fun (a' : Act) (va : Value) (w' : World) (h1 : a' = frR7 rb w.heap.size q s g R.mark b R.seq (upd1 gs 41 va)) h2 (h3 : laysR7 rb vb q s g R.mark b k u t r v0 (.iface 53 (.int .i64 8)) 0 va w') h4 => hQ.out a' w' ⟨va, h1, h2, h3, h4⟩
      unfold frR7
      go_wp2_with fail
      exact HQ _ (.pointer (some ⟨rb, 0, none⟩)) _ (by simp only [frR7, upd1, Nat.reduceEqDiff, reduceIte]) trivial rfl hC
    · have HQ := fun (a' : Act) (va : Value) (w' : World) (h1 : a' = frR7 rb w.heap.size q s g R.mark b R.seq (upd1 gs 42 va)) h2 (h3 : laysR7 rb vb q s g R.mark b k u t r v0 (.iface 53 (.int .i64 8)) 1 va w') h4 => hQ.out a' w' ⟨va, h1, h2, h3, h4⟩
      have r0 : gs 41 = .pointer (some ⟨rb, 0, none⟩) := hR 0 (hdeps ⟨0, .data⟩ (by simp) rfl)
      unfold frR7
      go_wp2_with fail
      exact HQ _ (.pointer (some ⟨rb, 0, none⟩)) _ (by simp only [frR7, upd1, r0, Nat.reduceEqDiff, reduceIte]) trivial rfl hC
    · have HQ := fun (a' : Act) (va : Value) (w' : World) (h1 : a' = frR7 rb w.heap.size q s g R.mark b R.seq (upd1 gs 43 va)) h2 (h3 : laysR7 rb vb q s g R.mark b k u t r v0 (.iface 53 (.int .i64 8)) 2 va w') h4 => hQ.out a' w' ⟨va, h1, h2, h3, h4⟩
      have r1 : gs 42 = .pointer (some ⟨rb, 0, none⟩) := hR 1 (hdeps ⟨1, .data⟩ (by simp) rfl)
      unfold frR7
      go_wp2_with fail
      exact HQ _ (.pointer (some ⟨rb, 0, none⟩)) _ (by simp only [frR7, upd1, r1, Nat.reduceEqDiff, reduceIte]) trivial rfl hC
    · have HQ := fun (a' : Act) (va : Value) (w' : World) (h1 : a' = frR7 rb w.heap.size q s g R.mark b R.seq (upd1 gs 44 va)) h2 (h3 : laysR7 rb vb q s g R.mark b k u t r v0 (.iface 53 (.int .i64 8)) 3 va w') h4 => hQ.out a' w' ⟨va, h1, h2, h3, h4⟩
      have r2 : gs 43 = .pointer (some ⟨rb, 0, none⟩) := hR 2 (hdeps ⟨2, .data⟩ (by simp) rfl)
      have b0 := (hC.1.block _ (lt_of_heap B4.out.blk)).trans B4.out.blk
      have z0 : w1.cell? ⟨rb, 0, none⟩ = some (.pointer (some ⟨vb, 0, none⟩)) := by rw [cell_in, b0]; rfl
      have lw1 : rb < w1.heap.size := lt_of_heap b0
      unfold frR7
      go_wp2_with fail
      exact HQ _ (.pointer (some ⟨vb, 0, none⟩)) _ (by simp only [frR7, upd1, r2, Nat.reduceEqDiff, reduceIte]) trivial rfl hC
    · have HQ := fun (a' : Act) (va : Value) (w' : World) (h1 : a' = frR7 rb w.heap.size q s g R.mark b R.seq (upd1 gs 45 va)) h2 (h3 : laysR7 rb vb q s g R.mark b k u t r v0 (.iface 53 (.int .i64 8)) 4 va w') h4 => hQ.out a' w' ⟨va, h1, h2, h3, h4⟩
      have b0 := (hC.1.block _ (lt_of_heap HE4.out)).trans HE4.out
      obtain ⟨c0, c1, c2, c3, c4⟩ := rec_cells (r := ⟨q, s, g, R.mark, b⟩) b0
      dsimp only at c0 c1 c2 c3 c4
      have lw1 := lt_of_heap b0
      unfold frR7
      go_wp2_with fail
      exact HQ _ (.agg #[.int .i64 q, .string s, .int .i64 g, .string R.mark, .string b]) _ (by simp only [frR7, upd1, Nat.reduceEqDiff, reduceIte]) trivial rfl hC
    · have HQ := fun (a' : Act) (va : Value) (w' : World) (h1 : a' = frR7 rb w.heap.size q s g R.mark b R.seq (upd1 gs 46 va)) h2 (h3 : laysR7 rb vb q s g R.mark b k u t r v0 (.iface 53 (.int .i64 8)) 5 va w') h4 => hQ.out a' w' ⟨va, h1, h2, h3, h4⟩
      have r3 : gs 44 = .pointer (some ⟨vb, 0, none⟩) := hR 3 (hdeps ⟨3, .data⟩ (by simp) rfl)
      have r4 : gs 45 = .agg #[.int .i64 q, .string s, .int .i64 g, .string R.mark, .string b] := hR 4 (hdeps ⟨4, .data⟩ (by simp) rfl)
      unfold frR7
      go_wp2_with fail
      refine (FO w1 (VX.out w1 (ext_trans X4.out (ext_of hC.1))) (GX.out w1 (ext_trans X4.out (ext_of hC.1)))).mono ?_
      rintro _ w5 ⟨rfl, hx⟩
      go_wp2_with fail
      exact HQ _ (.tuple #[.agg #[.int .i64 k, .string u, .string t, .string r, .string v0], (.iface 53 (.int .i64 8))]) _ (by simp only [frR7, upd1, r3, r4, Nat.reduceEqDiff, reduceIte]) trivial rfl (newA.ext hC hx)
    · have HQ := fun (a' : Act) (va : Value) (w' : World) (h1 : a' = frR7 rb w.heap.size q s g R.mark b R.seq (upd1 gs 40 va)) h2 (h3 : laysR7 rb vb q s g R.mark b k u t r v0 (.iface 53 (.int .i64 8)) 6 va w') h4 => hQ.out a' w' ⟨va, h1, h2, h3, h4⟩
      have r5 : gs 46 = .tuple #[.agg #[.int .i64 k, .string u, .string t, .string r, .string v0], (.iface 53 (.int .i64 8))] := hR 5 (hdeps ⟨5, .data⟩ (by simp) rfl)
      unfold frR7
      go_wp2_with fail
      exact HQ _ (.tuple #[.agg #[.int .i64 k, .string u, .string t, .string r, .string v0], (.iface 53 (.int .i64 8))]) _ (by simp only [frR7, upd1, r5, Nat.reduceEqDiff, reduceIte]) trivial rfl hC
    · have HQ := fun (a' : Act) (va : Value) (w' : World) (h1 : a' = frR7 rb w.heap.size q s g R.mark b R.seq (upd1 gs 47 va)) h2 (h3 : laysR7 rb vb q s g R.mark b k u t r v0 (.iface 53 (.int .i64 8)) 7 va w') h4 => hQ.out a' w' ⟨va, h1, h2, h3, h4⟩
      have r6 : gs 40 = .tuple #[.agg #[.int .i64 k, .string u, .string t, .string r, .string v0], (.iface 53 (.int .i64 8))] := hR 6 (hdeps ⟨6, .data⟩ (by simp) rfl)
      unfold frR7
      go_wp2_with fail
      exact HQ _ (.agg #[.int .i64 k, .string u, .string t, .string r, .string v0]) _ (by simp only [frR7, upd1, r6, Nat.reduceEqDiff, reduceIte]) trivial rfl hC
    · have HQ := fun (a' : Act) (va : Value) (w' : World) (h1 : a' = frR7 rb w.heap.size q s g R.mark b R.seq (upd1 gs 48 va)) h2 (h3 : laysR7 rb vb q s g R.mark b k u t r v0 (.iface 53 (.int .i64 8)) 8 va w') h4 => hQ.out a' w' ⟨va, h1, h2, h3, h4⟩
      have r6 : gs 40 = .tuple #[.agg #[.int .i64 k, .string u, .string t, .string r, .string v0], (.iface 53 (.int .i64 8))] := hR 6 (hdeps ⟨6, .data⟩ (by simp) rfl)
      unfold frR7
      go_wp2_with fail
      exact HQ _ ((.iface 53 (.int .i64 8))) _ (by simp only [frR7, upd1, r6, Nat.reduceEqDiff, reduceIte]) trivial rfl hC
    · have HQ := fun (a' : Act) (va : Value) (w' : World) (h1 : a' = frR7 rb w.heap.size q s g R.mark b R.seq (upd1 gs 5 va)) h2 (h3 : laysR7 rb vb q s g R.mark b k u t r v0 (.iface 53 (.int .i64 8)) 9 va w') h4 => hQ.out a' w' ⟨va, h1, h2, h3, h4⟩
      unfold frR7
      go_wp2_with fail
      exact HQ _ (.pointer (some ⟨w1.heap.size, 0, none⟩)) _ (by simp only [frR7, upd1, Nat.reduceEqDiff, reduceIte]) trivial ⟨_, rfl⟩ (newA.made hC hLi)
    · have HQ := fun (a' : Act) (va : Value) (w' : World) (h1 : a' = frR7 rb w.heap.size q s g R.mark b R.seq (upd1 gs 1010 va)) h2 (h3 : laysR7 rb vb q s g R.mark b k u t r v0 (.iface 53 (.int .i64 8)) 10 va w') h4 => hQ.out a' w' ⟨va, h1, h2, h3, h4⟩
      have r7 : gs 47 = .agg #[.int .i64 k, .string u, .string t, .string r, .string v0] := hR 7 (hdeps ⟨7, .data⟩ (by simp) rfl)
      have r9 := hR 9 (hdeps ⟨9, .data⟩ (by simp) rfl)
      obtain ⟨p, hp⟩ := r9
      change gs 5 = _ at hp
      have l9 : L 9 = true := hdeps ⟨9, .data⟩ (by simp) rfl
      obtain ⟨p', hp', hpl, hpb⟩ := hC.2.2 l9
      rw [hp] at hp'
      injection hp' with hp'
      injection hp' with hp'
      injection hp' with hp'
      subst hp'
      rw [show L 10 = false from hLi] at hpb
      have hpb : w1.heap[p]? = some (.cells #[.int .i64 0, .string ⟨#[]⟩, .string ⟨#[]⟩, .string ⟨#[]⟩, .string ⟨#[]⟩] 155 (0, 0)) := hpb
      have lw1 := lt_of_heap hpb
      have ff := free_of_heap hpb
      have HH := Lib.hid (setEvAt hpb (.int .i64 k) (.string u) (.string t) (.string r) (.string v0))
      obtain ⟨y0, y1, y2, y3, y4⟩ := ev_cells hpb
      clear hpb
      unfold frR7
      go_wp2_with fail
      exact HQ _ undef _ (by simp only [frR7, upd1, r7, hp, Nat.reduceEqDiff, reduceIte]) trivial trivial (newA.put hC l9 hp HH.out.1 HH.out.2)
    · have HQ := fun (a' : Act) (va : Value) (w' : World) (h1 : a' = frR7 rb w.heap.size q s g R.mark b R.seq (upd1 gs 6 va)) h2 (h3 : laysR7 rb vb q s g R.mark b k u t r v0 (.iface 53 (.int .i64 8)) 11 va w') h4 => hQ.out a' w' ⟨va, h1, h2, h3, h4⟩
      have r8 : gs 48 = (.iface 53 (.int .i64 8)) := hR 8 (hdeps ⟨8, .data⟩ (by simp) rfl)
      unfold frR7
      go_wp2_with fail
      exact HQ _ ((.iface 53 (.int .i64 8))) _ (by simp only [frR7, upd1, r8, Nat.reduceEqDiff, reduceIte]) trivial rfl hC
  intro L7 g7 w5 hall hR hC

  obtain ⟨p5, hp5, hpl, hpb⟩ := hC.2.2 (hall 9 (by decide))
  rw [hall 10 (by decide), if_pos rfl] at hpb
  have EB5 := Lib.hid hpb
  have s6 : g7 6 = .iface 53 (.int .i64 8) := hR 11 (by decide)
  have X5 := Lib.hid (ext_trans X4.out (ext_of hC.1))
  have B5 := Lib.hid (B4.out.ext (ext_of hC.1))
  have HE5 := Lib.hid ((hC.1.block _ (lt_of_heap HE4.out)).trans HE4.out)
  have P5 := Lib.hid (show w.heap.size < p5 from Nat.lt_of_lt_of_le (lt_of_heap HE4.out) hpl)
  clear hC hall hR hpb hpl HE4 B4 X4
  unfold frR7
  rw [hp5, s6]
  clear hp5 s6
  go_wp2_with fail
  refine (tell_any (.iface 53 (.int .i64 8)) (.no 8) w5 (GX.out w5 X5.out).err).mono ?_
  rintro _ w6 ⟨rfl, hx⟩
  rw [show errNum (.iface 53 (.int .i64 8)) = 8 from rfl]
  have X6 := Lib.hid (ext_trans X5.out hx)
  have B6 := Lib.hid (B5.out.ext hx)
  have HE6 := Lib.hid (((ext_iff.1 hx).block _ (lt_of_heap HE5.out)).trans HE5.out)
  have EB6 := Lib.hid (((ext_iff.1 hx).block _ (lt_of_heap EB5.out)).trans EB5.out)
  clear hx X5 B5 HE5 EB5
  obtain ⟨z0, z1, z2, z4, lt⟩ := rd_cells B6.out
  have ff := free_of_heap B6.out.blk
  have hlo : (R.lost : Int) ≤ 1048576 := by have := HD.out.lo; omega
  have RB8 := Lib.hid (show (w6.setCell ⟨rb, 4, none⟩ (.int .i64 ((R.lost : Int) + 1))).heap[rb]? = some (.cells #[.pointer (some ⟨vb, 0, none⟩), .int .i64 R.seq, .string R.mark, .map tm, .int .i64 ((R.lost : Int) + 1)] 164 (0, 0)) from heap_setCell B6.out.blk _)
  have GR8 := Lib.hid (grown_setCell w6 rb 4 (.int .i64 ((R.lost : Int) + 1)))
  go_wp2_with fail
  generalize w6.setCell ⟨rb, 4, none⟩ (.int .i64 ((R.lost : Int) + 1)) = w8 at RB8 GR8 ⊢
  have NE := Lib.hid (show w.heap.size ≠ rb from fun e => by have := HD.out.lt _ HD.out.rb_; omega)
  have HE8 := Lib.hid ((GR8.out.block _ (lt_of_heap HE6.out) (fun e => NE.out (by injection e))).trans HE6.out)
  have ST := Lib.hid ((step.of_ext D X6.out).trans (.of_grown GR8.out (fun j hj => by cases hj; exact HD.out.rb_)))
  have GY := Lib.hid fun W (hg : w8.grownBy W (some rb)) => ((HGL.out.step (ST.out.same (A := fun i => V i ∨ D i) (fun i hi => Or.inr hi))).step (.of_grown hg (fun j hj => by cases hj; exact Or.inr HD.out.rb_))).rounds
  clear z0 z1 z2 z4 lt ff X6 HE6 EB6
  generalize hmk : (⟨(mkB ⟨q, s, g, R.mark, b⟩).toArray⟩ : ByteArray) = MK1 at MK
  refine wp_region_slots (frR15L rb w.heap.size p5 q s g R.mark b R.seq g7 R.lost) dstR15L (fun _ => undef) (laysR15L rb w.heap.size q s g R.mark b MK1) (fun L g w => stR w8 rb vb R.seq q R.mark MK1 tm ((R.lost : Int) + 1) (L 8) (L 11) w) (fun w w' => True) (by kernel_rfl) (by kernel_rfl) rfl ?_ (by kernel_rfl) ⟨grown_drawn _ _ _, RB8.out⟩ ?_ ?_
  · exact fun _ _ _ _ _ h => h
  · refine ⟨?_, ?_, ?_, ?_, ?_, ?_, ?_, ?_, ?_, ?_, ?_, ?_, trivial⟩
    all_goals (intro L gs w1 hLi hdeps hR hC; refine ends_of fun Q hQ => ?_)
    · have HQ := fun (a' : Act) (va : Value) (w' : World) (h1 : a' = frR15L rb w.heap.size p5 q s g R.mark b R.seq g7 R.lost (upd1 gs 72 va)) h2 (h3 : laysR15L rb w.heap.size q s g R.mark b MK1 0 va w') h4 => hQ.out a' w' ⟨va, h1, h2, h3, h4⟩
      unfold frR15L
      go_wp2_with fail
      exact HQ _ (.pointer (some ⟨rb, 0, none⟩)) _ (by simp only [frR15L, upd1, Nat.reduceEqDiff, reduceIte]) trivial rfl hC
    · have HQ := fun (a' : Act) (va : Value) (w' : World) (h1 : a' = frR15L rb w.heap.size p5 q s g R.mark b R.seq g7 R.lost (upd1 gs 73 va)) h2 (h3 : laysR15L rb w.heap.size q s g R.mark b MK1 1 va w') h4 => hQ.out a' w' ⟨va, h1, h2, h3, h4⟩
      unfold frR15L
      go_wp2_with fail
      exact HQ _ (.pointer (some ⟨rb, 0, none⟩)) _ (by simp only [frR15L, upd1, Nat.reduceEqDiff, reduceIte]) trivial rfl hC
    · have HQ := fun (a' : Act) (va : Value) (w' : World) (h1 : a' = frR15L rb w.heap.size p5 q s g R.mark b R.seq g7 R.lost (upd1 gs 74 va)) h2 (h3 : laysR15L rb w.heap.size q s g R.mark b MK1 2 va w') h4 => hQ.out a' w' ⟨va, h1, h2, h3, h4⟩
      unfold frR15L
      go_wp2_with fail
      exact HQ _ (.pointer (some ⟨w.heap.size, 0, none⟩)) _ (by simp only [frR15L, upd1, Nat.reduceEqDiff, reduceIte]) trivial rfl hC
    · have HQ := fun (a' : Act) (va : Value) (w' : World) (h1 : a' = frR15L rb w.heap.size p5 q s g R.mark b R.seq g7 R.lost (upd1 gs 75 va)) h2 (h3 : laysR15L rb w.heap.size q s g R.mark b MK1 3 va w') h4 => hQ.out a' w' ⟨va, h1, h2, h3, h4⟩
      have r2 : gs 74 = .pointer (some ⟨w.heap.size, 0, none⟩) := hR 2 (hdeps ⟨2, .data⟩ (by simp) rfl)
      have b0 := (hC.1.block _ (lt_of_heap HE8.out) (by intro e; injection e with e; exact NE.out e)).trans HE8.out
      obtain ⟨c0, c1, c2, c3, c4⟩ := rec_cells (r := ⟨q, s, g, R.mark, b⟩) b0
      dsimp only at c0 c1 c2 c3 c4
      have lw1 := lt_of_heap b0
      unfold frR15L
      go_wp2_with fail
      exact HQ _ (.int .i64 q) _ (by simp only [frR15L, upd1, r2, Nat.reduceEqDiff, reduceIte]) trivial rfl hC
    · have HQ := fun (a' : Act) (va : Value) (w' : World) (h1 : a' = frR15L rb w.heap.size p5 q s g R.mark b R.seq g7 R.lost (upd1 gs 76 va)) h2 (h3 : laysR15L rb w.heap.size q s g R.mark b MK1 4 va w') h4 => hQ.out a' w' ⟨va, h1, h2, h3, h4⟩
      have b0 := (hC.1.block _ (lt_of_heap HE8.out) (by intro e; injection e with e; exact NE.out e)).trans HE8.out
      obtain ⟨c0, c1, c2, c3, c4⟩ := rec_cells (r := ⟨q, s, g, R.mark, b⟩) b0
      dsimp only at c0 c1 c2 c3 c4
      have lw1 := lt_of_heap b0
      unfold frR15L
      go_wp2_with fail
      exact HQ _ (.agg #[.int .i64 q, .string s, .int .i64 g, .string R.mark, .string b]) _ (by simp only [frR15L, upd1, Nat.reduceEqDiff, reduceIte]) trivial rfl hC
    · have HQ := fun (a' : Act) (va : Value) (w' : World) (h1 : a' = frR15L rb w.heap.size p5 q s g R.mark b R.seq g7 R.lost (upd1 gs 77 va)) h2 (h3 : laysR15L rb w.heap.size q s g R.mark b MK1 5 va w') h4 => hQ.out a' w' ⟨va, h1, h2, h3, h4⟩
      have r4 : gs 76 = .agg #[.int .i64 q, .string s, .int .i64 g, .string R.mark, .string b] := hR 4 (hdeps ⟨4, .data⟩ (by simp) rfl)
      unfold frR15L
      go_wp2_with fail
      refine (MK w1 (GY.out w1 hC.1)).mono ?_
      rintro _ wn ⟨rfl, hx⟩
      go_wp2_with fail
      exact HQ _ (.string MK1) _ (by simp only [frR15L, upd1, r4, Nat.reduceEqDiff, reduceIte]) trivial rfl (hC.ext hx)
    · have HQ := fun (a' : Act) (va : Value) (w' : World) (h1 : a' = frR15L rb w.heap.size p5 q s g R.mark b R.seq g7 R.lost (upd1 gs 78 va)) h2 (h3 : laysR15L rb w.heap.size q s g R.mark b MK1 6 va w') h4 => hQ.out a' w' ⟨va, h1, h2, h3, h4⟩
      have r0 : gs 72 = .pointer (some ⟨rb, 0, none⟩) := hR 0 (hdeps ⟨0, .data⟩ (by simp) rfl)
      unfold frR15L
      go_wp2_with fail
      exact HQ _ (.pointer (some ⟨rb, 0, none⟩)) _ (by simp only [frR15L, upd1, r0, Nat.reduceEqDiff, reduceIte]) trivial rfl hC
    · have HQ := fun (a' : Act) (va : Value) (w' : World) (h1 : a' = frR15L rb w.heap.size p5 q s g R.mark b R.seq g7 R.lost (upd1 gs 79 va)) h2 (h3 : laysR15L rb w.heap.size q s g R.mark b MK1 7 va w') h4 => hQ.out a' w' ⟨va, h1, h2, h3, h4⟩
      have r6 : gs 78 = .pointer (some ⟨rb, 0, none⟩) := hR 6 (hdeps ⟨6, .data⟩ (by simp) rfl)
      unfold frR15L
      go_wp2_with fail
      exact HQ _ (.pointer (some ⟨rb, 1, none⟩)) _ (by simp only [frR15L, upd1, r6, Nat.reduceEqDiff, reduceIte]) trivial rfl hC
    · have HQ := fun (a' : Act) (va : Value) (w' : World) (h1 : a' = frR15L rb w.heap.size p5 q s g R.mark b R.seq g7 R.lost (upd1 gs 1008 va)) h2 (h3 : laysR15L rb w.heap.size q s g R.mark b MK1 8 va w') h4 => hQ.out a' w' ⟨va, h1, h2, h3, h4⟩
      have r3 : gs 75 = .int .i64 q := hR 3 (hdeps ⟨3, .data⟩ (by simp) rfl)
      have r7 : gs 79 = .pointer (some ⟨rb, 1, none⟩) := hR 7 (hdeps ⟨7, .data⟩ (by simp) rfl)
      have b0 := hC.2
      have ff := free_of_heap b0
      have lw1 := lt_of_heap b0
      generalize hzz : (if L 8 = true then q else (R.seq : Int)) = zz at b0
      generalize hmm : (if L 11 = true then MK1 else R.mark) = zm at b0
      have z1 : w1.cell? ⟨rb, 1, none⟩ = some (.int .i64 zz) := by rw [cell_in, b0]; rfl
      have z2 : w1.cell? ⟨rb, 2, none⟩ = some (.string zm) := by rw [cell_in, b0]; rfl
      clear b0 hzz hmm
      unfold frR15L
      go_wp2_with fail
      exact HQ _ undef _ (by simp only [frR15L, upd1, r3, r7, Nat.reduceEqDiff, reduceIte]) trivial trivial (stR.seq hC)
    · have HQ := fun (a' : Act) (va : Value) (w' : World) (h1 : a' = frR15L rb w.heap.size p5 q s g R.mark b R.seq g7 R.lost (upd1 gs 80 va)) h2 (h3 : laysR15L rb w.heap.size q s g R.mark b MK1 9 va w') h4 => hQ.out a' w' ⟨va, h1, h2, h3, h4⟩
      have r1 : gs 73 = .pointer (some ⟨rb, 0, none⟩) := hR 1 (hdeps ⟨1, .data⟩ (by simp) rfl)
      unfold frR15L
      go_wp2_with fail
      exact HQ _ (.pointer (some ⟨rb, 0, none⟩)) _ (by simp only [frR15L, upd1, r1, Nat.reduceEqDiff, reduceIte]) trivial rfl hC
    · have HQ := fun (a' : Act) (va : Value) (w' : World) (h1 : a' = frR15L rb w.heap.size p5 q s g R.mark b R.seq g7 R.lost (upd1 gs 81 va)) h2 (h3 : laysR15L rb w.heap.size q s g R.mark b MK1 10 va w') h4 => hQ.out a' w' ⟨va, h1, h2, h3, h4⟩
      have r9 : gs 80 = .pointer (some ⟨rb, 0, none⟩) := hR 9 (hdeps ⟨9, .data⟩ (by simp) rfl)
      unfold frR15L
      go_wp2_with fail
      exact HQ _ (.pointer (some ⟨rb, 2, none⟩)) _ (by simp only [frR15L, upd1, r9, Nat.reduceEqDiff, reduceIte]) trivial rfl hC
    · have HQ := fun (a' : Act) (va : Value) (w' : World) (h1 : a' = frR15L rb w.heap.size p5 q s g R.mark b R.seq g7 R.lost (upd1 gs 1011 va)) h2 (h3 : laysR15L rb w.heap.size q s g R.mark b MK1 11 va w') h4 => hQ.out a' w' ⟨va, h1, h2, h3, h4⟩
      have r5 : gs 77 = .string MK1 := hR 5 (hdeps ⟨5, .data⟩ (by simp) rfl)
      have r10 : gs 81 = .pointer (some ⟨rb, 2, none⟩) := hR 10 (hdeps ⟨10, .data⟩ (by simp) rfl)
      have b0 := hC.2
      have ff := free_of_heap b0
      have lw1 := lt_of_heap b0
      generalize hzz : (if L 8 = true then q else (R.seq : Int)) = zz at b0
      generalize hmm : (if L 11 = true then MK1 else R.mark) = zm at b0
      have z1 : w1.cell? ⟨rb, 1, none⟩ = some (.int .i64 zz) := by rw [cell_in, b0]; rfl
      have z2 : w1.cell? ⟨rb, 2, none⟩ = some (.string zm) := by rw [cell_in, b0]; rfl
      clear b0 hzz hmm
      unfold frR15L
      go_wp2_with fail
      exact HQ _ undef _ (by simp only [frR15L, upd1, r5, r10, Nat.reduceEqDiff, reduceIte]) trivial trivial (stR.mark hC)
  intro L9 g9 w9 hall hR hC

  have HC := hC
  rw [hall 8 (by decide), hall 11 (by decide)] at HC
  have RB9 := Lib.hid HC
  clear hC hall hR HC
  unfold frR15L
  go_wp2_with fail
  go_ret
  obtain ⟨h9, hb9⟩ := RB9.out
  have hq : q = ((R.seq + 1 : Nat) : Int) := by have := H1.out; omega
  rw [if_pos rfl, if_pos rfl, hq, ← hmk] at hb9
  refine ⟨rfl, D, ?_, ST.out.trans (.of_grown h9 (fun j hj => by cases hj; exact HD.out.rb_))⟩
  rw [HM.out _ rfl]
  have nt : ∀ c, tm = some c → some c ≠ some rb := fun c hc e => by injection e with e; subst e; have := B6.out; rw [hc] at this; exact this.ne rfl
  have gg := GR8.out.trans h9
  have szz := (ST.out.size)
  have sz9 := h9.size
  exact ⟨tm, ⟨by rw [hb9]; rfl, B6.out.nil, fun c hc => ((B6.out.map c hc).kept gg (nt c hc)).mono (Nat.le_succ _)⟩, HD.out.rb_, HD.out.tm_, (fun i hi => by have := HD.out.lt i hi; omega), (by show R.seq + 1 ≤ 1048576; omega), (by show R.lost + 1 ≤ R.seq + 1; have := HD.out.lo; omega)⟩
end Go.Proofs.YtnkmckdefiblhaaGreatDoor
