/- oublietteref.mix (printed by wip/bin/gen_mix.py), in, long. -/
import Derived.Test.YtjjadgcpmfmlfaaDoorProg
import Derived.Test.YtjjadgcpmfmlfaaDoorStream
namespace Go.Proofs.YtjjadgcpmfmlfaaDoor
open Go.RowKit

/-! ### A row of words with something behind it -/
def rowS (n : Nat) (A : Nat → BitVec 32) (sp : Array Value) : Array Value := row32 n A ++ sp
theorem rowS_set {n : Nat} (A : Nat → BitVec 32) (sp : Array Value) (i : Nat) (hi : i < n) (v : BitVec 32) : (rowS n A sp).setIfInBounds i (.int .u32 (val v)) = rowS n (upd A i v) sp := by
  unfold rowS
  rw [Array.setIfInBounds_append_left (by rw [row32_size]; exact hi), row32_set]
theorem cell_of_rowS {w : World} {b n : Nat} {A : Nat → BitVec 32} {sp : Array Value} {t : TypeId} (h : w.heap[b]? = some (.cells (rowS n A sp) t (0, 0))) :
    ∀ i, i < n → w.cell? ⟨b, i, none⟩ = some (.int .u32 (val (A i))) := by
  intro i hi
  rw [cell_in, h]
  simp only [cellIn, rowS, Option.isSome_none, Bool.false_eq_true, if_false]
  rw [Array.getElem?_append_left (by rw [row32_size]; exact hi)]
  simp [row32, row_get, hi]
theorem store_rowS {w : World} {x : More} {b n i : Nat} {A : Nat → BitVec 32} {sp : Array Value} {t : TypeId} {v : BitVec 32} (hi : i < n) (h : w.heap[b]? = some (.cells (rowS n A sp) t (0, 0))) :
    ((ext w x).setCell ⟨b, i, none⟩ (.int .u32 (val v))).heap[b]? = some (.cells (rowS n (upd A i v) sp) t (0, 0)) ∧
    w.grownBy ((ext w x).setCell ⟨b, i, none⟩ (.int .u32 (val v))) (some b) := by
  have hb := lt_of_heap h
  constructor
  · rw [← rowS_set A sp i hi]; exact heap_setCell ((ext_heap hb).trans h) _
  · exact (grown_ext w x _).trans (grown_setCell _ _ _ _)

/-! ### left -/
theorem left_bits (x : BitVec 32) (n : Nat) (hn : n ≤ 31) : ((x.setWidth 64 <<< n) ||| (x.setWidth 64 <<< n) >>> 32).setWidth 32 = rotl x n := by
  unfold rotl
  apply BitVec.eq_of_getLsbD_eq
  intro i hi
  simp only [BitVec.getLsbD_setWidth, BitVec.getLsbD_or, BitVec.getLsbD_shiftLeft, BitVec.getLsbD_ushiftRight]
  have h1 : decide (i < 32) = true := decide_eq_true hi
  have h2 : decide (i < 64) = true := decide_eq_true (by omega)
  have h3 : decide (32 + i < 64) = true := decide_eq_true (by omega)
  have h4 : decide (32 + i < n) = false := decide_eq_false (by omega)
  have h5 : decide (i - n < 64) = true := decide_eq_true (by omega)
  have h6 : decide (32 + i - n < 64) = true := decide_eq_true (by omega)
  rw [h1, h2, h3, h4, h5, h6, show 32 + i - n = 32 - n + i by omega]
  simp
theorem left_walk (x : BitVec 32) (n : Nat) (hn : n ≤ 31) : bits .or .u64 (val x * 2 ^ n) (val x * 2 ^ n / 4294967296) % 4294967296 = val (rotl x n) := by
  have hx : x.toNat < 4294967296 := x.isLt
  have hb : x.toNat * 2 ^ n < 18446744073709551616 := by
    have h2 : 2 ^ n ≤ 2147483648 := Nat.pow_le_pow_right (n := 2) (by omega) hn
    exact Nat.lt_of_le_of_lt (Nat.mul_le_mul (show x.toNat ≤ 4294967295 by omega) h2) (by decide)
  have e1 : (val x * 2 ^ n : Int) = ((x.setWidth 64 <<< n).toNat : Int) := by
    unfold val
    rw [BitVec.toNat_shiftLeft, BitVec.toNat_setWidth, Nat.shiftLeft_eq, Nat.mod_eq_of_lt (show x.toNat < 18446744073709551616 by omega), Nat.mod_eq_of_lt hb]
    push_cast; rfl
  have e2 : (val x * 2 ^ n / 4294967296 : Int) = (((x.setWidth 64 <<< n) >>> 32).toNat : Int) := by
    rw [e1, BitVec.toNat_ushiftRight, Nat.shiftRight_eq_div_pow]
    generalize (x.setWidth 64 <<< n).toNat = q
    show (q : Int) / 4294967296 = ((q / 4294967296 : Nat) : Int)
    omega
  rw [e2, e1, bits_or]
  show IntKind.u64.wrap ((BitVec.ofInt 64 _ ||| BitVec.ofInt 64 _).toNat : Int) % 4294967296 = _
  rw [ofInt_toNat, ofInt_toNat, ← left_bits x n hn, IntKind.wrap_u64]
  unfold val
  generalize (x.setWidth 64 <<< n ||| (x.setWidth 64 <<< n) >>> 32) = y
  rw [BitVec.toNat_setWidth]
  have hy : y.toNat < 18446744073709551616 := y.isLt
  show ((y.toNat : Nat) : Int) % 18446744073709551616 % 4294967296 = ((y.toNat % 4294967296 : Nat) : Int)
  omega

set_option maxHeartbeats 400000 in
theorem left_any (x : BitVec 32) (v : Int) (h0 : 0 ≤ v) (h1 : v ≤ 31) (w : World) :
    Calls Tryd.prog 103 #[.int .u32 (val x), .int .u64 v] w fun e w' => e = .returned (.int .u32 (val (rotl x v.toNat))) ∧ ∃ x, w' = ext w x := by
  obtain ⟨n, rfl⟩ := Int.eq_ofNat_of_zero_le h0
  have hn : n ≤ 31 := by omega
  have hr := Lib.hid (left_walk x n hn)
  have hv := val_lt x
  have hb : val x * 2 ^ n ≤ 4294967295 * 2147483648 := by
    have h2 : (2 : Int) ^ n ≤ 2147483648 := by
      have h3 : 2 ^ n ≤ 2147483648 := Nat.pow_le_pow_right (n := 2) (by omega) hn
      have h4 : ((2 ^ n : Nat) : Int) ≤ ((2147483648 : Nat) : Int) := Int.ofNat_le.2 h3
      rw [Int.natCast_pow] at h4
      exact h4
    exact Int.mul_le_mul (by omega) h2 (Int.le_of_lt (Int.pow_pos (by decide))) (by decide)
  have hp : 0 ≤ val x * 2 ^ n := Int.mul_nonneg hv.1 (Int.le_of_lt (Int.pow_pos (by decide)))
  have hw : IntKind.u64.wrap (val x * 2 ^ n) = val x * 2 ^ n := by rw [IntKind.wrap_u64]; exact Int.emod_eq_of_lt hp (by omega)
  clear h0 h1 hb hp
  go_enter Tryd.func103, Tryd.ntmps103
  go_wp2_with fail
  go_ret
  have e : val (rotl x ((n : Int).toNat)) = bits .or .u64 (val x * 2 ^ n) (val x * 2 ^ n / 4294967296) % 4294967296 := by rw [Int.toNat_natCast]; exact hr.out.symm
  exact ⟨by rw [e]; rfl, ext_refl _⟩

theorem cells4 {w : World} {b : Nat} {t : TypeId} {p q r s : Int} (h : w.heap[b]? = some (.cells #[.int .i64 p, .int .i64 q, .int .i64 r, .int .i64 s] t (0, 0))) :
    w.cell? ⟨b, 0, none⟩ = some (.int .i64 p) ∧ w.cell? ⟨b, 1, none⟩ = some (.int .i64 q) ∧ w.cell? ⟨b, 2, none⟩ = some (.int .i64 r) ∧ w.cell? ⟨b, 3, none⟩ = some (.int .i64 s) := by
  refine ⟨?_, ?_, ?_, ?_⟩ <;> (rw [cell_in, h]; rfl)

set_option maxRecDepth 100000 in
set_option maxHeartbeats 8000000 in
theorem mix_any (A0 : Nat → BitVec 32) (sp : Array Value) (b cap a c d e : Nat) (t : TypeId) (w : World) (hb0 : w.heap[b]? = some (.cells (rowS 16 A0 sp) t (0, 0)))
    (la : a < 16) (lc : c < 16) (ld : d < 16) (le : e < 16) (va vc vd ve : Int) (ea : va = a) (ec : vc = c) (ed : vd = d) (ee : ve = e) :
    Calls Tryd.prog 72 #[.slice (some ⟨b, 0, none⟩) 16 cap, .agg #[.int .i64 va, .int .i64 vc, .int .i64 vd, .int .i64 ve]] w fun r w' =>
      r = .returned (.tuple #[]) ∧ w.grownBy w' (some b) ∧ w'.heap[b]? = some (.cells (rowS 16 (quarter A0 a c d e) sp) t (0, 0)) := by
  subst ea ec ed ee
  have lb := lt_of_heap hb0
  have hne : b < w.heap.size := lb
  have hH0 := (heap_alloc_old w (.cells #[.int .i64 a, .int .i64 c, .int .i64 d, .int .i64 e] 99) lb).trans hb0
  have hPP := heap_alloc_at w (.cells #[.int .i64 (a : Nat), .int .i64 (c : Nat), .int .i64 (d : Nat), .int .i64 (e : Nat)] 99)
  have GG := Lib.hid ((grown_refl w (some b)).trans (World.grownBy_alloc w (.cells #[.int .i64 a, .int .i64 c, .int .i64 d, .int .i64 e] 99) (some b)))
  have hc := cell_of_rowS hH0
  have hf := free_of_heap hH0
  have hp := cells4 hPP
  have H := Lib.hid hH0
  have HP := Lib.hid hPP
  clear hb0 hH0 hPP
  have la' : (a : Int) < 16 := by omega
  have lc' : (c : Int) < 16 := by omega
  have ld' : (d : Int) < 16 := by omega
  have le' : (e : Int) < 16 := by omega
  go_enter Tryd.func72, Tryd.ntmps72
  go_wp2_with fail
  have lP : w.heap.size < (w.alloc (.cells #[.int .i64 a, .int .i64 c, .int .i64 d, .int .i64 e] 99)).heap.size := by simp
  replace lb : b < (w.alloc (.cells #[.int .i64 a, .int .i64 c, .int .i64 d, .int .i64 e] 99)).heap.size := by simp; omega
  generalize w.alloc (.cells #[.int .i64 a, .int .i64 c, .int .i64 d, .int .i64 e] 99) = w0 at *
  refine wp_loop_rounds 3 ?_
  rw [rounds_succ]

  go_wp2_with fail
  refine wp_region_ext (by kernel_rfl) (by kernel_rfl) ?_
  repeat (go_big_quiet_step (fail))
  refine wpQuiet_nil ?_
  rintro _ ⟨y0, rfl⟩
  have H2 := Lib.hid ((ext_heap (x := y0) lb).trans H.out)
  have HP2 := Lib.hid ((ext_heap (x := y0) lP).trans HP.out)
  have GG2 := Lib.hid (GG.out.trans (grown_ext w0 y0 (some b)))
  have lb2 : b < (ext w0 y0).heap.size := by rw [ext_size]; omega
  have lP2 : w.heap.size < (ext w0 y0).heap.size := by rw [ext_size]; omega
  clear H HP GG lb lP hc hf hp
  generalize ext w0 y0 = w0 at *
  have hc := cell_of_rowS H2.out
  have hf := free_of_heap H2.out
  have hp := cells4 HP2.out
  have H := H2
  have HP := HP2
  have GG := GG2
  have lb := lb2
  have lP := lP2
  clear H2 HP2 GG2 lb2 lP2

  -- statement 1
  go_wp2_with fail
  refine wp_region_tail 12 (by kernel_rfl) (by kernel_rfl) ?_
  simp only [List.take_succ_cons, List.take_zero, List.drop_succ_cons, List.drop_zero]
  repeat (go_big_quiet_step (fail))
  refine wpQuiet_nil ?_
  rintro _ ⟨x1, rfl⟩
  go_wp2_with fail
  obtain ⟨S, T⟩ := store_rowS (x := x1) (i := a) (v := A0 a + A0 c) (by assumption) H.out
  generalize hw : (ext w0 x1).setCell _ _ = w1 at S T ⊢
  clear hw hc hf hp
  have hPP := (T.block _ (lt_of_heap HP.out) (by intro e; injection e with e; omega)).trans HP.out
  have hp := cells4 hPP
  replace HP := Lib.hid hPP
  replace GG := Lib.hid (GG.out.trans T)
  replace lb := Nat.lt_of_lt_of_le lb T.size
  replace lP := Nat.lt_of_lt_of_le lP T.size
  obtain ⟨A1, hA1⟩ : ∃ A, A = upd A0 a (A0 a + A0 c) := ⟨_, rfl⟩
  rw [← hA1] at S
  have hc := cell_of_rowS S
  have hf := free_of_heap S
  replace H := Lib.hid S
  have E1 := Lib.hid hA1
  clear S T hA1 hPP

  -- statement 2
  go_wp2_with fail
  refine wp_region_tail 18 (by kernel_rfl) (by kernel_rfl) ?_
  simp only [List.take_succ_cons, List.take_zero, List.drop_succ_cons, List.drop_zero]
  repeat (go_big_quiet_step ((go_at_call 103; refine (left_any (A1 e ^^^ A1 a) 16 (by decide) (by decide) _).mono ?_; rintro _ _ ⟨rfl, hx⟩; exact ⟨rfl, ext_trans ⟨_, rfl⟩ hx⟩)))
  refine wpQuiet_nil ?_
  rintro _ ⟨x2, rfl⟩
  go_wp2_with fail
  obtain ⟨S, T⟩ := store_rowS (x := x2) (i := e) (v := rotl (A1 e ^^^ A1 a) 16) (by assumption) H.out
  generalize hw : (ext w1 x2).setCell _ _ = w2 at S T ⊢
  clear hw hc hf hp
  have hPP := (T.block _ (lt_of_heap HP.out) (by intro e; injection e with e; omega)).trans HP.out
  have hp := cells4 hPP
  replace HP := Lib.hid hPP
  replace GG := Lib.hid (GG.out.trans T)
  replace lb := Nat.lt_of_lt_of_le lb T.size
  replace lP := Nat.lt_of_lt_of_le lP T.size
  obtain ⟨A2, hA2⟩ : ∃ A, A = upd A1 e (rotl (A1 e ^^^ A1 a) 16) := ⟨_, rfl⟩
  rw [← hA2] at S
  have hc := cell_of_rowS S
  have hf := free_of_heap S
  replace H := Lib.hid S
  have E2 := Lib.hid hA2
  clear S T hA2 hPP

  -- statement 3
  go_wp2_with fail
  refine wp_region_tail 12 (by kernel_rfl) (by kernel_rfl) ?_
  simp only [List.take_succ_cons, List.take_zero, List.drop_succ_cons, List.drop_zero]
  repeat (go_big_quiet_step (fail))
  refine wpQuiet_nil ?_
  rintro _ ⟨x3, rfl⟩
  go_wp2_with fail
  obtain ⟨S, T⟩ := store_rowS (x := x3) (i := d) (v := A2 d + A2 e) (by assumption) H.out
  generalize hw : (ext w2 x3).setCell _ _ = w3 at S T ⊢
  clear hw hc hf hp
  have hPP := (T.block _ (lt_of_heap HP.out) (by intro e; injection e with e; omega)).trans HP.out
  have hp := cells4 hPP
  replace HP := Lib.hid hPP
  replace GG := Lib.hid (GG.out.trans T)
  replace lb := Nat.lt_of_lt_of_le lb T.size
  replace lP := Nat.lt_of_lt_of_le lP T.size
  obtain ⟨A3, hA3⟩ : ∃ A, A = upd A2 d (A2 d + A2 e) := ⟨_, rfl⟩
  rw [← hA3] at S
  have hc := cell_of_rowS S
  have hf := free_of_heap S
  replace H := Lib.hid S
  have E3 := Lib.hid hA3
  clear S T hA3 hPP

  -- statement 4
  go_wp2_with fail
  refine wp_region_tail 18 (by kernel_rfl) (by kernel_rfl) ?_
  simp only [List.take_succ_cons, List.take_zero, List.drop_succ_cons, List.drop_zero]
  repeat (go_big_quiet_step ((go_at_call 103; refine (left_any (A3 c ^^^ A3 d) 12 (by decide) (by decide) _).mono ?_; rintro _ _ ⟨rfl, hx⟩; exact ⟨rfl, ext_trans ⟨_, rfl⟩ hx⟩)))
  refine wpQuiet_nil ?_
  rintro _ ⟨x4, rfl⟩
  go_wp2_with fail
  obtain ⟨S, T⟩ := store_rowS (x := x4) (i := c) (v := rotl (A3 c ^^^ A3 d) 12) (by assumption) H.out
  generalize hw : (ext w3 x4).setCell _ _ = w4 at S T ⊢
  clear hw hc hf hp
  have hPP := (T.block _ (lt_of_heap HP.out) (by intro e; injection e with e; omega)).trans HP.out
  have hp := cells4 hPP
  replace HP := Lib.hid hPP
  replace GG := Lib.hid (GG.out.trans T)
  replace lb := Nat.lt_of_lt_of_le lb T.size
  replace lP := Nat.lt_of_lt_of_le lP T.size
  obtain ⟨A4, hA4⟩ : ∃ A, A = upd A3 c (rotl (A3 c ^^^ A3 d) 12) := ⟨_, rfl⟩
  rw [← hA4] at S
  have hc := cell_of_rowS S
  have hf := free_of_heap S
  replace H := Lib.hid S
  have E4 := Lib.hid hA4
  clear S T hA4 hPP

  go_wp2_with fail
  rw [rounds_succ]

  go_wp2_with fail
  refine wp_region_ext (by kernel_rfl) (by kernel_rfl) ?_
  repeat (go_big_quiet_step (fail))
  refine wpQuiet_nil ?_
  rintro _ ⟨y4, rfl⟩
  have H2 := Lib.hid ((ext_heap (x := y4) lb).trans H.out)
  have HP2 := Lib.hid ((ext_heap (x := y4) lP).trans HP.out)
  have GG2 := Lib.hid (GG.out.trans (grown_ext w4 y4 (some b)))
  have lb2 : b < (ext w4 y4).heap.size := by rw [ext_size]; omega
  have lP2 : w.heap.size < (ext w4 y4).heap.size := by rw [ext_size]; omega
  clear H HP GG lb lP hc hf hp
  generalize ext w4 y4 = w4 at *
  have hc := cell_of_rowS H2.out
  have hf := free_of_heap H2.out
  have hp := cells4 HP2.out
  have H := H2
  have HP := HP2
  have GG := GG2
  have lb := lb2
  have lP := lP2
  clear H2 HP2 GG2 lb2 lP2

  -- statement 5
  go_wp2_with fail
  refine wp_region_tail 12 (by kernel_rfl) (by kernel_rfl) ?_
  simp only [List.take_succ_cons, List.take_zero, List.drop_succ_cons, List.drop_zero]
  repeat (go_big_quiet_step (fail))
  refine wpQuiet_nil ?_
  rintro _ ⟨x5, rfl⟩
  go_wp2_with fail
  obtain ⟨S, T⟩ := store_rowS (x := x5) (i := a) (v := A4 a + A4 c) (by assumption) H.out
  generalize hw : (ext w4 x5).setCell _ _ = w5 at S T ⊢
  clear hw hc hf hp
  have hPP := (T.block _ (lt_of_heap HP.out) (by intro e; injection e with e; omega)).trans HP.out
  have hp := cells4 hPP
  replace HP := Lib.hid hPP
  replace GG := Lib.hid (GG.out.trans T)
  replace lb := Nat.lt_of_lt_of_le lb T.size
  replace lP := Nat.lt_of_lt_of_le lP T.size
  obtain ⟨A5, hA5⟩ : ∃ A, A = upd A4 a (A4 a + A4 c) := ⟨_, rfl⟩
  rw [← hA5] at S
  have hc := cell_of_rowS S
  have hf := free_of_heap S
  replace H := Lib.hid S
  have E5 := Lib.hid hA5
  clear S T hA5 hPP

  -- statement 6
  go_wp2_with fail
  refine wp_region_tail 18 (by kernel_rfl) (by kernel_rfl) ?_
  simp only [List.take_succ_cons, List.take_zero, List.drop_succ_cons, List.drop_zero]
  repeat (go_big_quiet_step ((go_at_call 103; refine (left_any (A5 e ^^^ A5 a) 8 (by decide) (by decide) _).mono ?_; rintro _ _ ⟨rfl, hx⟩; exact ⟨rfl, ext_trans ⟨_, rfl⟩ hx⟩)))
  refine wpQuiet_nil ?_
  rintro _ ⟨x6, rfl⟩
  go_wp2_with fail
  obtain ⟨S, T⟩ := store_rowS (x := x6) (i := e) (v := rotl (A5 e ^^^ A5 a) 8) (by assumption) H.out
  generalize hw : (ext w5 x6).setCell _ _ = w6 at S T ⊢
  clear hw hc hf hp
  have hPP := (T.block _ (lt_of_heap HP.out) (by intro e; injection e with e; omega)).trans HP.out
  have hp := cells4 hPP
  replace HP := Lib.hid hPP
  replace GG := Lib.hid (GG.out.trans T)
  replace lb := Nat.lt_of_lt_of_le lb T.size
  replace lP := Nat.lt_of_lt_of_le lP T.size
  obtain ⟨A6, hA6⟩ : ∃ A, A = upd A5 e (rotl (A5 e ^^^ A5 a) 8) := ⟨_, rfl⟩
  rw [← hA6] at S
  have hc := cell_of_rowS S
  have hf := free_of_heap S
  replace H := Lib.hid S
  have E6 := Lib.hid hA6
  clear S T hA6 hPP

  -- statement 7
  go_wp2_with fail
  refine wp_region_tail 12 (by kernel_rfl) (by kernel_rfl) ?_
  simp only [List.take_succ_cons, List.take_zero, List.drop_succ_cons, List.drop_zero]
  repeat (go_big_quiet_step (fail))
  refine wpQuiet_nil ?_
  rintro _ ⟨x7, rfl⟩
  go_wp2_with fail
  obtain ⟨S, T⟩ := store_rowS (x := x7) (i := d) (v := A6 d + A6 e) (by assumption) H.out
  generalize hw : (ext w6 x7).setCell _ _ = w7 at S T ⊢
  clear hw hc hf hp
  have hPP := (T.block _ (lt_of_heap HP.out) (by intro e; injection e with e; omega)).trans HP.out
  have hp := cells4 hPP
  replace HP := Lib.hid hPP
  replace GG := Lib.hid (GG.out.trans T)
  replace lb := Nat.lt_of_lt_of_le lb T.size
  replace lP := Nat.lt_of_lt_of_le lP T.size
  obtain ⟨A7, hA7⟩ : ∃ A, A = upd A6 d (A6 d + A6 e) := ⟨_, rfl⟩
  rw [← hA7] at S
  have hc := cell_of_rowS S
  have hf := free_of_heap S
  replace H := Lib.hid S
  have E7 := Lib.hid hA7
  clear S T hA7 hPP

  -- statement 8
  go_wp2_with fail
  refine wp_region_tail 18 (by kernel_rfl) (by kernel_rfl) ?_
  simp only [List.take_succ_cons, List.take_zero, List.drop_succ_cons, List.drop_zero]
  repeat (go_big_quiet_step ((go_at_call 103; refine (left_any (A7 c ^^^ A7 d) 7 (by decide) (by decide) _).mono ?_; rintro _ _ ⟨rfl, hx⟩; exact ⟨rfl, ext_trans ⟨_, rfl⟩ hx⟩)))
  refine wpQuiet_nil ?_
  rintro _ ⟨x8, rfl⟩
  go_wp2_with fail
  obtain ⟨S, T⟩ := store_rowS (x := x8) (i := c) (v := rotl (A7 c ^^^ A7 d) 7) (by assumption) H.out
  generalize hw : (ext w7 x8).setCell _ _ = w8 at S T ⊢
  clear hw hc hf hp
  have hPP := (T.block _ (lt_of_heap HP.out) (by intro e; injection e with e; omega)).trans HP.out
  have hp := cells4 hPP
  replace HP := Lib.hid hPP
  replace GG := Lib.hid (GG.out.trans T)
  replace lb := Nat.lt_of_lt_of_le lb T.size
  replace lP := Nat.lt_of_lt_of_le lP T.size
  obtain ⟨A8, hA8⟩ : ∃ A, A = upd A7 c (rotl (A7 c ^^^ A7 d) 7) := ⟨_, rfl⟩
  rw [← hA8] at S
  have hc := cell_of_rowS S
  have hf := free_of_heap S
  replace H := Lib.hid S
  have E8 := Lib.hid hA8
  clear S T hA8 hPP

  go_wp2_with fail
  rw [rounds_succ]
  go_wp2_with fail
  go_end0
  have e : A8 = quarter A0 a c d e := by
    rw [E8.out, E7.out, E6.out, E5.out, E4.out, E3.out, E2.out, E1.out]; rfl
  exact ⟨rfl, GG.out, by rw [H.out, e]⟩
end Go.Proofs.YtjjadgcpmfmlfaaDoor
