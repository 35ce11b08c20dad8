/- The reference's numbers: primes, New (the walks). -/
import Derived.Test.YtnmpchojhbmbmaaGreatDoorProg
import Derived.Test.YtnmpchojhbmbmaaGreatDoorG10
namespace Go.Proofs.YtnmpchojhbmbmaaGreatDoor
open Go.RowKit

def PrimesPost (w : World) (r : Ending) (w' : World) : Prop := ∃ v, r = .returned v ∧ ownsN w' w.heap.size 3 .i64 v primes64 ∧ ∃ x, w' = ext w x
def apartB (k : Nat) (l : List Nat) : Bool := l.all fun p => k % p != 0
theorem apartB_take (k : Nat) (l : List Nat) (q : Nat) (h : q < l.length) : apartB k (l.take (q + 1)) = (apartB k (l.take q) && (k % l[q] != 0)) := by
  unfold apartB; rw [List.take_succ_eq_append_getElem h, List.all_append]; simp
theorem primesTo_step (j : Nat) : primesTo (j + 1) = if apartB (j + 2) (primesTo j) then primesTo j ++ [j + 2] else primesTo j := rfl

set_option maxRecDepth 100000 in
set_option maxHeartbeats 2000000 in
theorem primes_any (w : World) : Calls Tryz.prog 20 #[.int .i64 64] w (PrimesPost w) := by
  go_enter Tryz.func20, Tryz.ntmps20
  go_wp2_with fail
  go_loopw [4, 3] (fun kv lv wr => ∃ j : Nat, kv = .int .i64 ((j : Int) + 2) ∧ j ≤ 310 ∧ Hid (ownsN wr w.heap.size 3 .i64 lv (primesTo j)) ∧ Hid (Below w.heap.size w wr)) (fun kv _ _ => (312 - intOf kv).toNat)
  case atStart => exact ⟨0, rfl, by omega, Lib.hid (ownsN_nil _ _ _ _), Lib.hid (Below.refl _ _)⟩
  case round =>
    obtain ⟨j, rfl, hj, HO, BB⟩ := hrel
    obtain ⟨p, cap, rfl⟩ := ownsN_slice HO.out
    have HP := Lib.hid (primesTo_pos j)
    have HM := Lib.hid (fun h => primesTo_more (j := j) hj h)
    have HE := Lib.hid (fun h => primesTo_end (j := j) hj h)
    have HS := Lib.hid (primesTo_step j)
    generalize hL : primesTo j = L at HO HP HM HE HS ⊢
    clear hL
    by_cases hlt : L.length < 64
    · have hj2 : j < 310 := HM.out hlt
      have hlI : ((L.length : Nat) : Int) < 64 := by omega
      go_wp2_with fail
      go_loop [5, 16] (fun bv iv => ∃ q : Nat, q ≤ L.length ∧ iv = .int .i64 q ∧ bv = .bool (apartB (j + 2) (L.take q))) (fun _ iv => L.length - (intOf iv).toNat)
      case atStart => exact ⟨0, Nat.zero_le _, rfl, rfl⟩
      case round =>
        obtain ⟨q, hq, rfl, rfl⟩ := hrel
        by_cases hqL : q < L.length
        · rcases ownsN_form HO.out with ⟨_, h0⟩ | ⟨g, cap', hv, -, -, -, -, hc⟩
          · rw [h0] at hqL; simp at hqL
          obtain ⟨rfl, rfl⟩ : p = some ⟨g, 0, none⟩ ∧ cap = cap' := by injection hv with e1 e2 e3; exact ⟨e1, e3⟩
          have hcell := hc q hqL
          have htk := apartB_take (j + 2) L q hqL
          have hpos := HP.out _ (List.getElem_mem hqL)
          generalize L[q] = e at hcell htk hpos
          have HT := Lib.hid htk
          obtain ⟨hp2, hp3⟩ := hpos
          clear hv hc htk
          have hmod : Hid ((((j : Int) + 2) % (e : Int) != 0) = ((j + 2) % e != 0)) := Lib.hid (by
            rw [Bool.eq_iff_iff, bne_iff_ne, bne_iff_ne]
            rw [show ((j : Int) + 2) % (e : Int) = (((j + 2) % e : Nat) : Int) by push_cast; rfl]
            omega)
          cases hb : apartB (j + 2) (L.take q) with
          | false =>
            rw [hb] at HT
            go_wp2_with fail
            go_round
            case rel => exact ⟨q + 1, by omega, by go_num, by rw [HT.out]; rfl⟩
            case measure => simp [intOf]; omega
          | true =>
            rw [hb] at HT
            go_wp2_with fail
            all_goals
              go_round
              case rel => exact ⟨q + 1, by omega, by go_num, by rw [HT.out, ← hmod.out]; simp_all⟩
              case measure => simp [intOf]; omega
        · obtain rfl : q = L.length := by omega
          rw [List.take_length]
          cases hb : apartB (j + 2) L with
          | false =>
            have HS2 : Hid (primesTo (j + 1) = L) := Lib.hid (by rw [HS.out, hb]; rfl)
            clear hb
            go_wp2_with fail
            go_roundw
            case rel => exact ⟨j + 1, by go_num, by omega, by rw [HS2.out]; exact HO, BB⟩
            case measure => simp [intOf]; omega
          | true =>
            have HS2 : Hid (primesTo (j + 1) = L ++ [j + 2]) := Lib.hid (by rw [HS.out, hb]; rfl)
            clear hb
            go_wp2_with (at_builtin; go_must (refine append_num 57 3 .i64 8 Tryz.underlying57 infoI (by decide) (j + 2) w.heap.size (.slice p L.length cap) L (.tmp 29) (.tmp 31) _ rfl rfl rfl 1 rfl (by omega) HO.out (by omega) BB.out.size ?_); intro v5 w5 hO5 hg5 hat5)
            have hbase := ownsN_base HO.out
            have BB5 := Lib.hid (BB.out.grown hg5 BB.out.size (fun g e => hbase g e))
            rw [← HS2.out] at hO5
            have HO5 := Lib.hid hO5
            clear hO5 hg5 hat5 HO BB hbase
            go_wp2_with fail
            go_roundw
            case rel => exact ⟨j + 1, by go_num, by omega, HO5, BB5⟩
            case measure => simp [intOf]; omega
    · have hge : ¬ ((L.length : Nat) : Int) < 64 := by omega
      go_wp2_with fail
      go_ret
      refine ⟨_, rfl, ?_, ext_of BB.out⟩
      rw [← HE.out (by omega)]; exact HO.out

/-- The first numbers of R, as far as they are reckoned. -/
def newTo (a c : Nat) : Nat → BitVec 32 := fun j => if j < 8 then (if j < a then ivW j else 0) else if j - 8 < c then K256 (j - 8) else 0
theorem newTo_k (a c : Nat) : upd (newTo a c) (8 + c) (K256 c) = newTo a (c + 1) := by
  funext j
  unfold upd newTo
  by_cases h : j = 8 + c
  · subst h; rw [if_pos rfl, if_neg (by omega), if_pos (by omega)]; congr 1; omega
  · rw [if_neg h]
    by_cases h8 : j < 8
    · rw [if_pos h8, if_pos h8]
    · rw [if_neg h8, if_neg h8]
      by_cases h2 : j - 8 < c
      · rw [if_pos h2, if_pos (by omega)]
      · rw [if_neg h2, if_neg (by omega)]
theorem newTo_h (a c : Nat) (ha : a < 8) : upd (newTo a c) a (ivW a) = newTo (a + 1) c := by
  funext j
  unfold upd newTo
  by_cases h : j = a
  · subst h; rw [if_pos rfl, if_pos ha, if_pos (by omega)]
  · rw [if_neg h]
    by_cases h8 : j < 8
    · rw [if_pos h8, if_pos h8]
      by_cases h2 : j < a
      · rw [if_pos h2, if_pos (by omega)]
      · rw [if_neg h2, if_neg (by omega)]
    · rw [if_neg h8, if_neg h8]
theorem newTo_over (a c : Nat) (ha : 8 ≤ a) : newTo a c = newTo (a + 1) c := by
  funext j
  unfold newTo
  by_cases h8 : j < 8
  · rw [if_pos h8, if_pos h8, if_pos (by omega), if_pos (by omega)]
  · rw [if_neg h8, if_neg h8]
/-- The numbers of FIPS 180-4. -/
def refR : Nat → BitVec 32 := newTo 64 64
theorem cubesK : (List.range 64).all (fun q => BitVec.ofNat 32 (cubes64.getD q 0) == K256 q) = true := by decide +kernel
theorem squaresIv : (List.range 8).all (fun q => BitVec.ofNat 32 (squares8.getD q 0) == ivW q) = true := by decide +kernel
theorem primes_small : (List.range 64).all (fun q => decide (primes64.getD q 0 ≤ 311)) = true := by decide +kernel

theorem cube_any (q : Nat) (hq : q < 64) (w : World) :
    Calls Tryz.prog 21 #[.int .u64 (primes64.getD q 0 : Nat), .int .i64 3] w fun r w' => r = .returned (.int .u32 (val (K256 q))) ∧ ∃ x, w' = ext w x := by
  have hp := of_decide_eq_true (List.all_eq_true.1 primes_small q (List.mem_range.2 hq))
  refine (root_any (primes64.getD q 0) 3 w (by omega) (by omega) (by omega)).mono ?_
  rintro r w' ⟨⟨n, hn, rfl⟩, hx⟩
  have e := cube_is hq hn
  have e2 := eq_of_beq (List.all_eq_true.1 cubesK q (List.mem_range.2 hq))
  exact ⟨by rw [e, e2], hx⟩
theorem square_any (q : Nat) (hq : q < 8) (w : World) :
    Calls Tryz.prog 21 #[.int .u64 (primes64.getD q 0 : Nat), .int .i64 2] w fun r w' => r = .returned (.int .u32 (val (ivW q))) ∧ ∃ x, w' = ext w x := by
  have hp := of_decide_eq_true (List.all_eq_true.1 primes_small q (List.mem_range.2 (by omega)))
  refine (root_any (primes64.getD q 0) 2 w (by omega) (by omega) (by omega)).mono ?_
  rintro r w' ⟨⟨n, hn, rfl⟩, hx⟩
  have e := square_is hq hn
  have e2 := eq_of_beq (List.all_eq_true.1 squaresIv q (List.mem_range.2 hq))
  exact ⟨by rw [e, e2], hx⟩
/-- R lies at b. -/
def isR (w : World) (b : Nat) : Prop := w.heap[b]? = some (.cells (row32 72 refR) 56 (0, 0))
def NewPost (w : World) (r : Ending) (w' : World) : Prop := ∃ b, r = .returned (.pointer (some ⟨b, 0, none⟩)) ∧ isR w' b ∧ w.heap.size ≤ b ∧ ∃ x, w' = ext w x

set_option maxRecDepth 100000 in
set_option maxHeartbeats 4000000 in
theorem new_any (w : World) : Calls Tryz.prog 5 #[] w (NewPost w) := by
  go_enter Tryz.func5, Tryz.ntmps5
  go_wp2_with fail
  have HB : Hid ((w.alloc (.cells Tryz.zeroCells56 56)).heap[w.heap.size]? = some (.cells (row32 72 (newTo 0 0)) 56 (0, 0))) := Lib.hid (by
    rw [heap_alloc_at, show row32 72 (newTo 0 0) = Tryz.zeroCells56 by kernel_rfl])
  have BB : Hid (Below w.heap.size w (w.alloc (.cells Tryz.zeroCells56 56))) := Lib.hid ((Below.refl _ _).alloc (Nat.le_refl _) _)
  generalize w.alloc (.cells Tryz.zeroCells56 56) = w1 at HB BB ⊢
  refine (primes_any _).mono ?_
  rintro _ w2 ⟨v, rfl, hO, hx⟩
  have HO := Lib.hid hO
  have HB2 := Lib.hid (((ext_iff.1 hx).block _ (lt_of_heap HB.out)).trans HB.out)
  have BB2 := Lib.hid (BB.out.trans ((ext_iff.1 hx).mono BB.out.size))
  clear hO hx
  rcases ownsN_form HO.out with ⟨_, h0⟩ | ⟨g, cap, rfl, hg, hlt, -, -, hc⟩
  · simp [primes64] at h0
  have hne : w.heap.size < g := Nat.lt_of_lt_of_le (lt_of_heap HB.out) hg
  have C : Hid (∀ q, q < 64 → w2.cell? ⟨g, q, none⟩ = some (.int .i64 (primes64.getD q 0 : Nat))) := Lib.hid (fun q hq => by
    have hq' : q < primes64.length := hq
    rw [hc q hq']; simp [List.getD_eq_getElem?_getD, List.getElem?_eq_getElem hq'])
  rw [show primes64.length = 64 from rfl]
  clear hc HO hg HB BB
  obtain ⟨wq, rfl⟩ : ∃ wq, wq = w2 := ⟨w2, rfl⟩
  go_wp2_with fail
  go_loopw [8] (fun iv wr => ∃ q : Nat, q ≤ 64 ∧ iv = .int .i64 q ∧ Hid (wr.heap[w.heap.size]? = some (.cells (row32 72 (newTo q q)) 56 (0, 0))) ∧ Hid (Below w.heap.size w wr) ∧ Hid (wq.grownBy wr (some w.heap.size))) (fun iv _ => 64 - (intOf iv).toNat)
  case atStart => exact ⟨0, by omega, rfl, HB2, BB2, Lib.hid (grown_refl _ _)⟩
  case round =>
    clear HB2 BB2
    obtain ⟨q, hq, rfl, HB, BB, HG⟩ := hrel
    by_cases hq64 : q < 64
    · have hcell : wr.cell? ⟨g, q, none⟩ = some (.int .i64 (primes64.getD q 0 : Nat)) := by
        rw [cell_in, HG.out.block g hlt (by intro e; injection e with e; omega), ← cell_in]; exact C.out q hq64
      have hp := of_decide_eq_true (List.all_eq_true.1 primes_small q (List.mem_range.2 hq64))
      have hcube := cube_any q hq64
      have hsq := fun h8 : q < 8 => square_any q h8
      generalize primes64.getD q 0 = P at hcell hp hcube hsq
      have SQ := Lib.hid hsq
      clear hsq
      have lb := lt_of_heap HB.out
      have hfr := free_of_heap HB.out (8 + q)
      have hfr2 := free_of_heap HB.out q
      have hcl := cell_of_row32 HB.out (8 + q) (by omega)
      generalize Value.int .u32 (val (newTo q q (8 + q))) = old at hcl
      go_wp2_with fail
      refine wp_region_tail 8 (by kernel_rfl) (by kernel_rfl) ?_
      simp only [List.take_succ_cons, List.take_zero, List.drop_succ_cons, List.drop_zero]
      repeat (go_big_quiet_step ((go_at_call 21; refine (hcube _).mono ?_; rintro _ _ ⟨rfl, hx⟩; exact ⟨rfl, ext_trans ⟨_, rfl⟩ hx⟩)))
      refine wpQuiet_nil ?_
      rintro _ ⟨x2, rfl⟩
      obtain ⟨S, U⟩ := store_row32 (x := x2) (i := 8 + q) (v := K256 q) HB.out
      rw [newTo_k] at S
      have BB2 := Lib.hid (BB.out.grown U BB.out.size (by rintro _ ⟨⟩; exact Nat.le_refl _))
      have HG2 := Lib.hid (HG.out.trans U)
      by_cases h8 : q < 8
      · have hi8 : (q : Int) < 8 := by omega
        have hsq := SQ.out h8
        go_wp2_with fail
        have S2 := Lib.hid S
        have hfr3 := free_of_heap S q
        have hcl3 := cell_of_row32 S q (by omega)
        generalize Value.int .u32 (val (newTo q (q + 1) q)) = old3 at hcl3
        have lb3 := lt_of_heap S
        clear S U HB BB HG hcell hfr hfr2 hcl
        generalize (ext wr x2).setCell ⟨w.heap.size, 8 + q, none⟩ (.int .u32 (val (K256 q))) = w3 at S2 BB2 HG2 hfr3 hcl3 lb3 ⊢
        refine wp_region_tail 8 (by kernel_rfl) (by kernel_rfl) ?_
        simp only [List.take_succ_cons, List.take_zero, List.drop_succ_cons, List.drop_zero]
        repeat (go_big_quiet_step ((go_at_call 21; refine (hsq _).mono ?_; rintro _ _ ⟨rfl, hx⟩; exact ⟨rfl, ext_trans ⟨_, rfl⟩ hx⟩)))
        refine wpQuiet_nil ?_
        rintro _ ⟨x4, rfl⟩
        obtain ⟨S4, U4⟩ := store_row32 (x := x4) (i := q) (v := ivW q) S2.out
        rw [newTo_h _ _ h8] at S4
        have BB4 := Lib.hid (BB2.out.grown U4 BB2.out.size (by rintro _ ⟨⟩; exact Nat.le_refl _))
        have HG4 := Lib.hid (HG2.out.trans U4)
        have S4 := Lib.hid S4
        go_wp2_with fail
        go_roundw
        case rel => exact ⟨q + 1, by omega, by go_num, S4, BB4, HG4⟩
        case measure => simp [intOf]; omega
      · have hi8 : ¬ (q : Int) < 8 := by omega
        rw [newTo_over _ _ (by omega)] at S
        have S := Lib.hid S
        go_wp2_with fail
        go_roundw
        case rel => exact ⟨q + 1, by omega, by go_num, S, BB2, HG2⟩
        case measure => simp [intOf]; omega
    · obtain rfl : q = 64 := by omega
      go_wp2_with fail
      go_ret
      exact ⟨w.heap.size, rfl, HB.out, Nat.le_refl _, ext_of BB.out⟩
end Go.Proofs.YtnmpchojhbmbmaaGreatDoor
