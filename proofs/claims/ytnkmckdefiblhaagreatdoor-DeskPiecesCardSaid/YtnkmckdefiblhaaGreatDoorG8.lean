/- Package sum: turn, and block (the walks). -/
import Derived.Test.YtnkmckdefiblhaaGreatDoorProg
import Derived.Test.YtnkmckdefiblhaaGreatDoorG6
import Derived.Test.YtnkmckdefiblhaaGreatDoorG7
namespace Go.Proofs.YtnkmckdefiblhaaGreatDoor
open Go.RowKit

/-- A word turned to the right. -/
def rotr (x : BitVec 32) (n : Nat) : BitVec 32 := x >>> n ||| x <<< (32 - n)
def roundsL : List Nat := [1116352408, 1899447441, 3049323471, 3921009573, 961987163, 1508970993, 2453635748, 2870763221, 3624381080, 310598401, 607225278, 1426881987, 1925078388, 2162078206, 2614888103, 3248222580, 3835390401, 4022224774, 264347078, 604807628, 770255983, 1249150122, 1555081692, 1996064986, 2554220882, 2821834349, 2952996808, 3210313671, 3336571891, 3584528711, 113926993, 338241895, 666307205, 773529912, 1294757372, 1396182291, 1695183700, 1986661051, 2177026350, 2456956037, 2730485921, 2820302411, 3259730800, 3345764771, 3516065817, 3600352804, 4094571909, 275423344, 430227734, 506948616, 659060556, 883997877, 958139571, 1322822218, 1537002063, 1747873779, 1955562222, 2024104815, 2227730452, 2361852424, 2428436474, 2756734187, 3204031479, 3329325298]
/-- The 64 numbers of rounds. -/
def K256 (i : Nat) : BitVec 32 := BitVec.ofNat 32 (roundsL.getD i 0)
/-- The package's variable holds them. -/
def Rounds (w : World) : Prop := 0 < w.heap.size ∧ ∀ i, i < 64 → w.cell? ⟨0, i, none⟩ = some (.int .u32 (val (K256 i)))
theorem Rounds_of {w w' : World} (h : Rounds w) (hh : ∀ k, k < w.heap.size → w'.heap[k]? = w.heap[k]?) (hs : w.heap.size ≤ w'.heap.size) : Rounds w' :=
  ⟨Nat.lt_of_lt_of_le h.1 hs, fun i hi => by have := h.2 i hi; rw [cell_in] at this ⊢; rw [hh _ h.1]; exact this⟩
theorem Rounds_ext {w w' : World} (h : Rounds w) (hx : ∃ x, w' = ext w x) : Rounds w' := Rounds_of h (fun _ hk => (ext_iff.1 hx).block _ hk) (ext_iff.1 hx).size
theorem Rounds_alloc {w : World} (h : Rounds w) (o : Obj) : Rounds (w.alloc o) := Rounds_of h (fun _ hk => heap_alloc_old _ _ hk) (by simp)

set_option maxHeartbeats 400000 in
theorem rturn_any (x : BitVec 32) (n : Nat) (hn : n ≤ 32) (w : World) :
    Calls Tryz.prog 72 #[.int .u32 (val x), .int .i64 n] w fun e w' => e = .returned (.int .u32 (val (rotr x n))) ∧ ∃ x, w' = ext w x := by
  have hr : bits .or .u32 (val x / 2 ^ n) (val x * 2 ^ (32 - n) % 4294967296) = val (rotr x n) := by
    rw [shl32, shr32, or32]; rfl
  have hr' := Lib.hid hr
  clear hr
  go_enter Tryz.func72, Tryz.ntmps72
  go_wp2
  refine wp_region_ext (by kernel_rfl) (by kernel_rfl) ?_
  repeat (go_big_quiet_step (fail))
  refine wpQuiet_nil ?_
  rintro _ ⟨x1, rfl⟩
  go_wp2
  go_ret
  exact ⟨by rw [hr'.out]; rfl, x1, rfl⟩

theorem rturn_z (x : BitVec 32) (v : Int) (h0 : 0 ≤ v) (h1 : v ≤ 32) (w : World) :
    Calls Tryz.prog 72 #[.int .u32 (val x), .int .i64 v] w fun e w' => e = .returned (.int .u32 (val (rotr x v.toNat))) ∧ ∃ x, w' = ext w x := by
  obtain ⟨n, rfl⟩ := Int.eq_ofNat_of_zero_le h0
  exact rturn_any x n (by omega) w
theorem byteV (b : UInt8) : (b.toNat : Int) = val (BitVec.ofNat 32 b.toNat) := by
  have := b.toNat_lt
  unfold val
  rw [BitVec.toNat_ofNat, Nat.mod_eq_of_lt (by omega)]
@[go_sem] theorem shr3 (x : BitVec 32) : val x / (8 : Int) = val (x >>> 3) := by have := shr32 x 3; simp only [Int.reducePow] at this; exact this
@[go_sem] theorem shr10 (x : BitVec 32) : val x / (1024 : Int) = val (x >>> 10) := by have := shr32 x 10; simp only [Int.reducePow] at this; exact this
@[go_sem] theorem add3 (a b c : BitVec 32) : (val a + val b + val c) % 4294967296 = val (a + b + c) := by
  rw [← add32 (a + b) c, ← add32 a b]; omega
@[go_sem] theorem add4 (a b c d : BitVec 32) : (val a + val b + val c + val d) % 4294967296 = val (a + b + c + d) := by
  rw [← add32 (a + b + c) d, ← add32 (a + b) c, ← add32 a b]; omega
@[go_sem] theorem not32 (x : BitVec 32) : bits .xor .u32 IntKind.u32.max (val x) = val (~~~x) := by
  have h : IntKind.u32.max = val (BitVec.allOnes 32) := by decide
  rw [h, xor32, BitVec.allOnes_xor]
theorem grown_setRow (w : World) (g : Nat) (cs : Array Value) : w.grownBy (w.setRow g cs) (some g) :=
  ⟨rfl, rfl, rfl, by simp, fun k _ hne => setRow_other w g k cs (fun e => hne (by rw [e]))⟩
/-! ### block -/
/-- Four bytes, the greatest first. -/
def be32 (l : List UInt8) (k : Nat) : BitVec 32 :=
  BitVec.ofNat 32 (l.getD k 0).toNat <<< 24 ||| BitVec.ofNat 32 (l.getD (k + 1) 0).toNat <<< 16 ||| BitVec.ofNat 32 (l.getD (k + 2) 0).toNat <<< 8 ||| BitVec.ofNat 32 (l.getD (k + 3) 0).toNat
theorem be32_walk (s : ByteArray) (k : Nat) (h : k + 3 < s.size) :
    bits .or .u32 (bits .or .u32 (bits .or .u32 (((s[k].toNat : Nat) : Int) * 16777216 % 4294967296) (((s[k + 1].toNat : Nat) : Int) * 65536 % 4294967296)) (((s[k + 2].toNat : Nat) : Int) * 256 % 4294967296)) ((s[k + 3].toNat : Nat) : Int) =
      val (be32 s.data.toList k) := by
  rw [byteV s[k], byteV s[k + 1], byteV s[k + 2], byteV s[k + 3]]
  have e8 := shl32 (BitVec.ofNat 32 s[k + 2].toNat) 8
  have e16 := shl32 (BitVec.ofNat 32 s[k + 1].toNat) 16
  have e24 := shl32 (BitVec.ofNat 32 s[k].toNat) 24
  simp only [Int.reducePow] at e8 e16 e24
  rw [e8, e16, e24, or32, or32, or32]
  unfold be32
  rw [get_data0 s k (by omega), get_data0 s (k + 1) (by omega), get_data0 s (k + 2) (by omega), get_data0 s (k + 3) h]
/-- The first k words. -/
def wordsTo (l : List UInt8) (k : Nat) : Nat → BitVec 32 := fun j => if j < k then be32 l (4 * j) else 0
theorem wordsTo_zero (l : List UInt8) : wordsTo l 0 = fun _ => 0 := rfl
theorem wordsTo_succ (l : List UInt8) (k : Nat) : upd (wordsTo l k) k (be32 l (4 * k)) = wordsTo l (k + 1) := by
  funext j
  unfold upd wordsTo
  by_cases h : j = k
  · subst h; rw [if_pos rfl, if_pos (by omega)]
  · rw [if_neg h]
    by_cases h2 : j < k
    · rw [if_pos h2, if_pos (by omega)]
    · rw [if_neg h2, if_neg (by omega)]
def sigA (x : BitVec 32) : BitVec 32 := rotr x 7 ^^^ rotr x 18 ^^^ x >>> 3
def sigB (x : BitVec 32) : BitVec 32 := rotr x 17 ^^^ rotr x 19 ^^^ x >>> 10
/-- k words more. -/
def sched (W : Nat → BitVec 32) : Nat → (Nat → BitVec 32)
  | 0 => W
  | k + 1 => upd (sched W k) (16 + k) (sched W k k + sigA (sched W k (k + 1)) + sched W k (k + 9) + sigB (sched W k (k + 14)))
theorem sched_at (W : Nat → BitVec 32) (j : Nat) (h : 16 ≤ j) :
    upd (sched W (j - 16)) j (sched W (j - 16) (j - 16) + sigA (sched W (j - 16) (j - 15)) + sched W (j - 16) (j - 7) + sigB (sched W (j - 16) (j - 2))) = sched W (j + 1 - 16) := by
  obtain ⟨k, rfl⟩ : ∃ k, j = 16 + k := ⟨j - 16, by omega⟩
  rw [show 16 + k + 1 - 16 = k + 1 by omega, show 16 + k - 16 = k by omega, show 16 + k - 15 = k + 1 by omega, show 16 + k - 7 = k + 9 by omega, show 16 + k - 2 = k + 14 by omega]
  rfl
def st8 (a b c d e f g h : BitVec 32) : Nat → BitVec 32 := fun i => if i = 0 then a else if i = 1 then b else if i = 2 then c else if i = 3 then d else if i = 4 then e else if i = 5 then f else if i = 6 then g else if i = 7 then h else 0
theorem row8 (a b c d e f g h : BitVec 32) : row32 8 (st8 a b c d e f g h) = #[.int .u32 (val a), .int .u32 (val b), .int .u32 (val c), .int .u32 (val d), .int .u32 (val e), .int .u32 (val f), .int .u32 (val g), .int .u32 (val h)] := rfl
def stepOne (v : Nat → BitVec 32) (k w : BitVec 32) : BitVec 32 := v 7 + (rotr (v 4) 6 ^^^ rotr (v 4) 11 ^^^ rotr (v 4) 25) + (v 4 &&& v 5 ^^^ ~~~(v 4) &&& v 6) + k + w
def stepTwo (v : Nat → BitVec 32) : BitVec 32 := (rotr (v 0) 2 ^^^ rotr (v 0) 13 ^^^ rotr (v 0) 22) + (v 0 &&& v 1 ^^^ v 0 &&& v 2 ^^^ v 1 &&& v 2)
/-- A round. -/
def shaStep (v : Nat → BitVec 32) (k w : BitVec 32) : Nat → BitVec 32 :=
  st8 (stepOne v k w + stepTwo v) (v 0) (v 1) (v 2) (v 3 + stepOne v k w) (v 4) (v 5) (v 6)
def shaRounds (v W : Nat → BitVec 32) : Nat → (Nat → BitVec 32)
  | 0 => v
  | k + 1 => shaStep (shaRounds v W k) (K256 k) (W k)
/-- The first k words of the sum. -/
def addTo (H v : Nat → BitVec 32) (k : Nat) : Nat → BitVec 32 := fun j => if j < k then H j + v j else H j
theorem addTo_succ (H v : Nat → BitVec 32) (k : Nat) : upd (addTo H v k) k (addTo H v k k + v k) = addTo H v (k + 1) := by
  funext j
  unfold upd addTo
  by_cases h : j = k
  · subst h; rw [if_pos rfl, if_neg (Nat.lt_irrefl _), if_pos (by omega)]
  · rw [if_neg h]
    by_cases h2 : j < k
    · rw [if_pos h2, if_pos (by omega)]
    · rw [if_neg h2, if_neg (by omega)]
/-- 64 bytes are taken in. -/
def shaBlock (H : Nat → BitVec 32) (l : List UInt8) : Nat → BitVec 32 := addTo H (shaRounds H (sched (wordsTo l 16) 48) 64) 8

set_option maxRecDepth 100000 in
set_option maxHeartbeats 2000000 in
theorem shablock_any (s : ByteArray) (b : Nat) (h0 : Nat → BitVec 32) (w : World) (hR : Rounds w) (hb : w.heap[b]? = some (.cells (row32 8 h0) 93 (0, 0))) (hs : s.size = 64) :
    Calls Tryz.prog 49 #[.pointer (some ⟨b, 0, none⟩), .string s] w fun r w' =>
      r = .returned (.tuple #[]) ∧ w.grownBy w' (some b) ∧ w'.heap[b]? = some (.cells (row32 8 (shaBlock h0 s.data.toList)) 93 (0, 0)) := by
  have lb := lt_of_heap hb
  have R := Lib.hid hR
  have HB := Lib.hid hb
  clear hR hb
  go_enter Tryz.func49, Tryz.ntmps49
  go_wp2_with fail
  go_loopw [16] (fun i wr => ∃ k : Nat, k ≤ 16 ∧ i = .int .i64 k ∧ Hid (wr.heap[w.heap.size]? = some (.cells (row32 64 (wordsTo s.data.toList k)) 122 (0, 0))) ∧ Hid (Below w.heap.size w wr)) (fun i _ => 16 - (intOf i).toNat)
  case atStart => exact ⟨0, by omega, rfl, by rw [wordsTo_zero]; exact Lib.hid (heap_alloc_at _ _), Lib.hid ((Below.refl _ _).alloc (Nat.le_refl _) _)⟩
  case round =>
    obtain ⟨k, hk16, rfl, H, B⟩ := hrel
    have hf := free_of_heap H.out
    have lw := lt_of_heap H.out
    by_cases hlt : k < 16
    · have hb := Lib.hid (be32_walk s (4 * k) (by omega))
      have i0 : (0 : Int) ≤ 4 * (k : Int) := by omega
      have i1 : (0 : Int) ≤ 4 * (k : Int) + 1 := by omega
      have i2 : (0 : Int) ≤ 4 * (k : Int) + 2 := by omega
      have i3 : (0 : Int) ≤ 4 * (k : Int) + 3 := by omega
      have h0 : 4 * (k : Int) < 64 := by omega
      have h1 : 4 * (k : Int) + 1 < 64 := by omega
      have h2 : 4 * (k : Int) + 2 < 64 := by omega
      have h3 : 4 * (k : Int) + 3 < 64 := by omega
      have hc := cell_of_row32 H.out k (by omega)
      go_wp2_with fail
      refine wp_region_tail 31 (by kernel_rfl) (by kernel_rfl) ?_
      simp only [List.take_succ_cons, List.take_zero, List.drop_succ_cons, List.drop_zero]
      repeat (go_big_quiet_step (fail))
      refine wpQuiet_nil ?_
      rintro _ ⟨x, rfl⟩
      go_wp2_with fail
      rw [hb.out]
      obtain ⟨S, T⟩ := store_row32 (x := x) (i := k) (v := be32 s.data.toList (4 * k)) H.out
      rw [wordsTo_succ] at S
      go_roundw
      case rel => exact ⟨k + 1, by omega, by go_num, Lib.hid S, Lib.hid (B.out.grown T B.out.size (by rintro _ ⟨⟩; exact Nat.le_refl _))⟩
      case measure => simp [intOf]; omega
    · obtain rfl : k = 16 := by omega
      rw [show ((16 : Nat) : Int) = 16 from rfl]
      go_wp2_with fail
      generalize hW : wordsTo s.data.toList 16 = W at H ⊢
      have HW := Lib.hid hW
      clear hW hf hlt lw
      go_loopw [6] (fun i wr => ∃ j : Nat, 16 ≤ j ∧ j ≤ 64 ∧ i = .int .i64 j ∧ Hid (wr.heap[w.heap.size]? = some (.cells (row32 64 (sched W (j - 16))) 122 (0, 0))) ∧ Hid (Below w.heap.size w wr)) (fun i _ => 64 - (intOf i).toNat)
      case atStart => exact ⟨16, by omega, by omega, rfl, H, B⟩
      case round =>
        clear H B
        obtain ⟨j, hj16, hj64, rfl, H, B⟩ := hrel
        have lw := lt_of_heap H.out
        by_cases hlt : j < 64
        · have jlt : (j : Int) < 64 := by omega
          have b15 : (0 : Int) ≤ (j : Int) - 15 := by omega
          have c15 : (j : Int) - 15 < 64 := by omega
          have hc15 := cell_of_row32 H.out (j - 15) (by omega)
          go_wp2_with fail
          refine wp_region_ext (by kernel_rfl) (by kernel_rfl) ?_
          repeat (go_big_quiet_step ((go_at_call 72; refine (rturn_z _ _ (by omega) (by omega) _).mono ?_; rintro _ _ ⟨rfl, hx⟩; exact ⟨rfl, ext_trans ⟨_, rfl⟩ hx⟩)))
          refine wpQuiet_nil ?_
          rintro _ ⟨x1, rfl⟩
          have H1 := Lib.hid ((ext_heap (x := x1) lw).trans H.out)
          have B1 := Lib.hid (B.out.grown (grown_ext wr x1 none) B.out.size (by rintro _ ⟨⟩))
          generalize hw1 : ext wr x1 = w1 at H1 B1 ⊢
          clear hw1 H B hc15 lw
          have lw := lt_of_heap H1.out
          have b2 : (0 : Int) ≤ (j : Int) - 2 := by omega
          have c2 : (j : Int) - 2 < 64 := by omega
          have hc2 := cell_of_row32 H1.out (j - 2) (by omega)
          go_wp2_with fail
          refine wp_region_ext (by kernel_rfl) (by kernel_rfl) ?_
          repeat (go_big_quiet_step ((go_at_call 72; refine (rturn_z _ _ (by omega) (by omega) _).mono ?_; rintro _ _ ⟨rfl, hx⟩; exact ⟨rfl, ext_trans ⟨_, rfl⟩ hx⟩)))
          refine wpQuiet_nil ?_
          rintro _ ⟨x2, rfl⟩
          have H2 := Lib.hid ((ext_heap (x := x2) lw).trans H1.out)
          have B2 := Lib.hid (B1.out.grown (grown_ext w1 x2 none) B1.out.size (by rintro _ ⟨⟩))
          generalize hw2 : ext w1 x2 = w2 at H2 B2 ⊢
          clear hw2 H1 B1 hc2 lw
          have lw := lt_of_heap H2.out
          have hf := free_of_heap H2.out
          have b16 : (0 : Int) ≤ (j : Int) - 16 := by omega
          have c16 : (j : Int) - 16 < 64 := by omega
          have hc16 := cell_of_row32 H2.out (j - 16) (by omega)
          have b7 : (0 : Int) ≤ (j : Int) - 7 := by omega
          have c7 : (j : Int) - 7 < 64 := by omega
          have hc7 := cell_of_row32 H2.out (j - 7) (by omega)
          have hcj := cell_of_row32 H2.out j (by omega)
          go_wp2_with fail
          refine wp_region_tail 15 (by kernel_rfl) (by kernel_rfl) ?_
          simp only [List.take_succ_cons, List.take_zero, List.drop_succ_cons, List.drop_zero]
          repeat (go_big_quiet_step (fail))
          refine wpQuiet_nil ?_
          rintro _ ⟨x3, rfl⟩
          go_wp2_with fail
          obtain ⟨S, T⟩ := store_row32 (x := x3) (i := j) (v := sched W (j - 16) (j - 16) + sigA (sched W (j - 16) (j - 15)) + sched W (j - 16) (j - 7) + sigB (sched W (j - 16) (j - 2))) H2.out
          rw [sched_at W j hj16] at S
          go_roundw
          case rel => exact ⟨j + 1, by omega, by omega, by go_num, Lib.hid S, Lib.hid (B2.out.grown T B2.out.size (by rintro _ ⟨⟩; exact Nat.le_refl _))⟩
          case measure => simp [intOf]; omega
        · obtain rfl : j = 64 := by omega
          rw [show ((64 : Nat) : Int) = 64 from rfl]
          have HBr := Lib.hid ((B.out.block b lb).trans HB.out)
          go_wp2_with (first
            | (refine wpList_load_row (o := ⟨some 106, _, _, _, _, _⟩) rfl 93 _ rfl b rfl 93 _ (0, 0) _ HBr.out Tryz.underlying93 rfl (by kernel_rfl) ?_)
            | (refine wpList_store_row rfl 93 _ _ rfl wr.heap.size rfl 93 _ _ rfl (heap_alloc_at _ _) (by kernel_rfl) (by rfl) (row32_one _ _) ?_))
          rw [World.setRow_alloc_new]
          have HS := Lib.hid ((heap_alloc_old wr (.cells (row32 8 h0) 93) lw).trans H.out)
          have HT := Lib.hid (heap_alloc_at wr (.cells (row32 8 h0) 93))
          have BB := Lib.hid (B.out.alloc B.out.size (.cells (row32 8 h0) 93))
          clear H B HBr hlt
          generalize wr.alloc (.cells (row32 8 h0) 93) = w1 at HS HT BB ⊢
          generalize wr.heap.size = bt at lw HT ⊢
          generalize hS : sched W (64 - 16) = S at HS ⊢
          have HSe := Lib.hid hS
          clear hS
          go_loopw [107] (fun i wr => ∃ k : Nat, k ≤ 64 ∧ i = .int .i64 k ∧ Hid (wr.heap[w.heap.size]? = some (.cells (row32 64 S) 122 (0, 0))) ∧
            Hid (wr.heap[bt]? = some (.cells (row32 8 (shaRounds h0 S k)) 93 (0, 0))) ∧ Hid (Below w.heap.size w wr)) (fun i _ => 64 - (intOf i).toNat)
          case atStart => exact ⟨0, by omega, rfl, HS, HT, BB⟩
          case round =>
            clear HS HT BB
            obtain ⟨k, hk64, rfl, HS, HT, BB⟩ := hrel
            generalize hV : shaRounds h0 S k = V at HT
            have HV := Lib.hid hV
            clear hV
            by_cases hlt : k < 64
            · have RR := Lib.hid (Rounds_of R.out (fun k hk => BB.out.block k hk) BB.out.size)
              have lt := lt_of_heap HT.out
              have ls := lt_of_heap HS.out
              have hc := cell_of_row32 HT.out
              have klt : (k : Int) < 64 := by omega
              go_wp2_with fail
              refine wp_region_ext (by kernel_rfl) (by kernel_rfl) ?_
              repeat (go_big_quiet_step ((go_at_call 72; refine (rturn_z _ _ (by omega) (by omega) _).mono ?_; rintro _ _ ⟨rfl, hx⟩; exact ⟨rfl, ext_trans ⟨_, rfl⟩ hx⟩)))
              refine wpQuiet_nil ?_
              rintro _ ⟨x1, rfl⟩
              have HS1 := Lib.hid ((ext_heap (x := x1) ls).trans HS.out)
              have HT1 := Lib.hid ((ext_heap (x := x1) lt).trans HT.out)
              have BB1 := Lib.hid (BB.out.grown (grown_ext wr x1 none) BB.out.size (by rintro _ ⟨⟩))
              have RR1 := Lib.hid (Rounds_ext RR.out ⟨x1, rfl⟩)
              generalize hw1 : ext wr x1 = w1 at HS1 HT1 BB1 RR1 ⊢
              clear hw1 HS HT BB RR ls lt hc
              have lt := lt_of_heap HT1.out
              have ls := lt_of_heap HS1.out
              have hc := cell_of_row32 HT1.out
              have hcs := cell_of_row32 HS1.out k hlt
              have hcr := RR1.out.2 k hlt
              go_wp2_with fail
              refine wp_region_ext (by kernel_rfl) (by kernel_rfl) ?_
              repeat (go_big_quiet_step (fail))
              refine wpQuiet_nil ?_
              rintro _ ⟨x2, rfl⟩
              have HS2 := Lib.hid ((ext_heap (x := x2) ls).trans HS1.out)
              have HT2 := Lib.hid ((ext_heap (x := x2) lt).trans HT1.out)
              have BB2 := Lib.hid (BB1.out.grown (grown_ext w1 x2 none) BB1.out.size (by rintro _ ⟨⟩))
              generalize hw2 : ext w1 x2 = w2 at HS2 HT2 BB2 ⊢
              clear hw2 HS1 HT1 BB1 RR1 ls lt hc hcs hcr
              have lt := lt_of_heap HT2.out
              have ls := lt_of_heap HS2.out
              have hc := cell_of_row32 HT2.out
              go_wp2_with fail
              refine wp_region_ext (by kernel_rfl) (by kernel_rfl) ?_
              repeat (go_big_quiet_step ((go_at_call 72; refine (rturn_z _ _ (by omega) (by omega) _).mono ?_; rintro _ _ ⟨rfl, hx⟩; exact ⟨rfl, ext_trans ⟨_, rfl⟩ hx⟩)))
              refine wpQuiet_nil ?_
              rintro _ ⟨x3, rfl⟩
              have HS3 := Lib.hid ((ext_heap (x := x3) ls).trans HS2.out)
              have HT3 := Lib.hid ((ext_heap (x := x3) lt).trans HT2.out)
              have BB3 := Lib.hid (BB2.out.grown (grown_ext w2 x3 none) BB2.out.size (by rintro _ ⟨⟩))
              generalize hw3 : ext w2 x3 = w3 at HS3 HT3 BB3 ⊢
              clear hw3 HS2 HT2 BB2 ls lt hc
              have lt := lt_of_heap HT3.out
              have hc := cell_of_row32 HT3.out
              go_wp2_with (refine wpList_store_row rfl 93 _ _ rfl bt rfl 93 _ _ (congrArg Value.agg (row8 _ _ _ _ _ _ _ _).symm) HT3.out (by kernel_rfl) (by rfl) (row32_one _ _) ?_)
              have S4 : (w3.setRow bt (row32 8 (shaStep V (K256 k) (S k)))).heap[bt]? = _ := setRow_heap w3 bt _ _ _ _ HT3.out
              have T4 := grown_setRow w3 bt (row32 8 (shaStep V (K256 k) (S k)))
              have e : shaRounds h0 S (k + 1) = shaStep V (K256 k) (S k) := by show shaStep (shaRounds h0 S k) _ _ = _; rw [HV.out]
              rw [← e] at S4 T4
              have HS4 := Lib.hid ((setRow_other w3 bt w.heap.size (row32 8 (shaRounds h0 S (k + 1))) (by omega)).trans HS3.out)
              have BB4 := Lib.hid (BB3.out.grown T4 BB3.out.size (by rintro _ ⟨⟩; omega))
              rw [e] at S4 HS4 BB4
              go_roundw
              case rel => exact ⟨k + 1, by omega, by go_num, HS4, by rw [e]; exact Lib.hid S4, BB4⟩
              case measure => simp [intOf]; omega
            · obtain rfl : k = 64 := by omega
              rw [show ((64 : Nat) : Int) = 64 from rfl]
              have HBr := Lib.hid ((BB.out.block b lb).trans HB.out)
              go_wp2_with fail
              have GG := Lib.hid (grown_below BB.out (some b))
              have lbt := lw
              clear HS BB hlt
              go_loopw [197] (fun i wr => ∃ k : Nat, k ≤ 8 ∧ i = .int .i64 k ∧ Hid (wr.heap[b]? = some (.cells (row32 8 (addTo h0 V k)) 93 (0, 0))) ∧
                Hid (wr.heap[bt]? = some (.cells (row32 8 V) 93 (0, 0))) ∧ Hid (w.grownBy wr (some b))) (fun i _ => 8 - (intOf i).toNat)
              case atStart => exact ⟨0, by omega, rfl, HBr, HT, GG⟩
              case round =>
                clear HBr HT GG
                obtain ⟨k, hk8, rfl, HBr, HT, GG⟩ := hrel
                have lt := lt_of_heap HT.out
                have lbr := lt_of_heap HBr.out
                by_cases hlt : k < 8
                · have klt : (k : Int) < 8 := by omega
                  have hf := free_of_heap HBr.out
                  have hcb := cell_of_row32 HBr.out k hlt
                  have hcv := cell_of_row32 HT.out k hlt
                  go_wp2_with fail
                  refine wp_region_tail 11 (by kernel_rfl) (by kernel_rfl) ?_
                  simp only [List.take_succ_cons, List.take_zero, List.drop_succ_cons, List.drop_zero]
                  repeat (go_big_quiet_step (fail))
                  refine wpQuiet_nil ?_
                  rintro _ ⟨x, rfl⟩
                  go_wp2_with fail
                  obtain ⟨S4, T4⟩ := store_row32 (x := x) (i := k) (v := addTo h0 V k k + V k) HBr.out
                  rw [addTo_succ] at S4
                  go_roundw
                  case rel => exact ⟨k + 1, by omega, by go_num, Lib.hid S4, Lib.hid (grown_heap T4 HT.out (by omega)), Lib.hid (GG.out.trans T4)⟩
                  case measure => simp [intOf]; omega
                · obtain rfl : k = 8 := by omega
                  rw [show ((8 : Nat) : Int) = 8 from rfl]
                  go_wp2_with fail
                  go_end0
                  refine ⟨rfl, GG.out, ?_⟩
                  have e : shaBlock h0 s.data.toList = addTo h0 V 8 := by unfold shaBlock; rw [HW.out, HSe.out, HV.out]
                  rw [e]; exact HBr.out
end Go.Proofs.YtnkmckdefiblhaaGreatDoor
