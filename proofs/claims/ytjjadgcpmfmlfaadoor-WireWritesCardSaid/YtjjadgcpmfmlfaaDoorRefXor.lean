/- oublietteref.Xor (the walk). -/
import Derived.Test.YtjjadgcpmfmlfaaDoorProg
import Derived.Test.YtjjadgcpmfmlfaaDoorRefBlock2
import Derived.Test.YtjjadgcpmfmlfaaDoorXor
namespace Go.Proofs.YtjjadgcpmfmlfaaDoor
open Go.RowKit

/-- The first m blocks, from number 1 on. -/
def blocksB (key nonce : List UInt8) (m : Nat) : List UInt8 := (List.range m).flatMap fun j => block key (1 + j) nonce
theorem blocksB_succ (key nonce : List UInt8) (m : Nat) : blocksB key nonce (m + 1) = blocksB key nonce m ++ block key (1 + m) nonce := by simp [blocksB, List.range_succ]
theorem blocksB_length (key nonce : List UInt8) (m : Nat) : (blocksB key nonce m).length = 64 * m := by
  induction m with
  | zero => rfl
  | succ m ih => rw [blocksB_succ, List.length_append, ih, block_length]; omega
theorem blocksB_get (key nonce : List UInt8) (m i : Nat) (h : i < 64 * m) : (blocksB key nonce m).getD i 0 = streamAt key nonce i := by
  induction m with
  | zero => omega
  | succ m ih =>
    rw [blocksB_succ, List.getD_eq_getElem?_getD]
    by_cases hi : i < 64 * m
    · rw [List.getElem?_append_left (by rw [blocksB_length]; exact hi), ← List.getD_eq_getElem?_getD, ih hi]
    · rw [List.getElem?_append_right (by rw [blocksB_length]; omega), blocksB_length, ← List.getD_eq_getElem?_getD]
      unfold streamAt
      rw [show i / 64 = m by omega, show i % 64 = i - 64 * m by omega]

set_option maxRecDepth 100000 in
set_option maxHeartbeats 1000000 in
theorem rxor_bad (key nonce s : ByteArray) (w : World) (h : ¬ (key.size = 32 ∧ nonce.size = 12)) :
    Calls Tryd.prog 17 #[.string key, .string nonce, .string s] w fun r w' => r = .returned (.tuple #[.string ⟨#[]⟩, .int .i64 1]) ∧ ∃ x, w' = ext w x := by
  have H := Lib.hid h
  clear h
  go_enter Tryd.func17, Tryd.ntmps17
  go_wp2_with fail
  refine wp_loop_rounds 1 ?_
  rw [rounds_succ]
  by_cases h0 : 0 < s.size
  · have hd : decide ((0 : Int) < s.size) = true := decide_eq_true (by omega)
    go_wp2_with fail
    refine (rblock_bad key nonce 1 _ (by have := H.out; omega)).mono ?_
    rintro _ _ ⟨rfl, x, rfl⟩
    go_wp2_with fail
    go_ret2
    exact ⟨rfl, x, rfl⟩
  · have hd : decide ((0 : Int) < s.size) = false := decide_eq_false (by omega)
    go_wp2_with fail
    refine (rblock_bad key nonce 1 _ (by have := H.out; omega)).mono ?_
    rintro _ _ ⟨rfl, x, rfl⟩
    go_wp2_with fail
    go_ret2
    exact ⟨rfl, x, rfl⟩

set_option maxRecDepth 100000 in
set_option maxHeartbeats 2000000 in
theorem rxor_some (key nonce s : ByteArray) (w : World) (hk : key.size = 32) (hn : nonce.size = 12) (hs : s.size ≤ 1048576) (hs0 : 0 < s.size) :
    Calls Tryd.prog 17 #[.string key, .string nonce, .string s] w fun r w' =>
      r = .returned (.tuple #[.string ⟨(xorB key.data.toList nonce.data.toList s.data.toList).toArray⟩, .int .i64 0]) ∧ ∃ x, w' = ext w x := by
  have K1 := Lib.hid hk
  have K2 := Lib.hid hn
  clear hk hn
  have HL : Hid (s.data.toList.length = s.size) := Lib.hid (by rw [Array.length_toList]; rfl)
  go_enter Tryd.func17, Tryd.ntmps17
  go_wp2_with fail
  go_loopw [9, 8] (fun kv av wr => ∃ m : Nat, kv = .int .i64 (1 + (m : Int)) ∧ (m = 0 ∨ 64 * (m - 1) < s.size) ∧ av = .string ⟨(blocksB key.data.toList nonce.data.toList m).toArray⟩ ∧ Hid (Below w.heap.size w wr)) (fun kv _ _ => s.size + 3 - (intOf kv).toNat)
  case atStart => exact ⟨0, rfl, .inl rfl, rfl, Lib.hid (Below.refl _ _)⟩
  case round =>
    obtain ⟨m, rfl, hm, rfl, BB⟩ := hrel
    have hal := blocksB_length key.data.toList nonce.data.toList m
    by_cases hlt : 64 * m < s.size
    · have hm2 : m < 20000 := by omega
      have hms : m ≤ s.size := by omega
      have HO := Lib.hid (blocksB_succ key.data.toList nonce.data.toList m)
      have hbl := block_length key.data.toList (1 + m) nonce.data.toList
      have hcat : ¬ 9223372036854775807 < (blocksB key.data.toList nonce.data.toList m).length + (block key.data.toList (1 + m) nonce.data.toList).length := by omega
      generalize blocksB key.data.toList nonce.data.toList m = M at HO hal hcat ⊢
      have hd : decide ((M.length : Int) < s.size) = true := decide_eq_true (by omega)
      go_wp2_with fail
      refine (rblock_any key nonce (1 + m) _ K1.out K2.out (by omega)).mono ?_
      rintro _ w2 ⟨rfl, hx⟩
      have BB2 := Lib.hid (BB.out.trans ((ext_iff.1 hx).mono BB.out.size))
      go_wp2_with fail
      refine ⟨⟨m + 1, by go_num, by omega, ?_, BB2⟩, ?_⟩
      · rw [str_append, HO.out]
      · simp only [intOf]; omega
    · have hm0 : m ≠ 0 := by omega
      have hge : s.size ≤ 64 * m := by omega
      have hd : decide (((blocksB key.data.toList nonce.data.toList m).length : Int) < s.size) = false := decide_eq_false (by omega)
      have hk1 : ((1 : Int) + m == 1) = false := by rw [beq_eq_false_iff_ne]; omega
      have HG : Hid (∀ i, i < s.size → (blocksB key.data.toList nonce.data.toList m).getD i 0 = streamAt key.data.toList nonce.data.toList i) := Lib.hid (fun i hi => blocksB_get _ _ _ _ (by omega))
      obtain ⟨sp, hbs⟩ := bytes_of_string wr s
      have hM1 : s.size ≤ (blocksB key.data.toList nonce.data.toList m).length := by omega
      generalize blocksB key.data.toList nonce.data.toList m = M at hd HG hM1 ⊢
      clear hal hm hlt hge
      go_wp2_with fail
      clear hbs
      have HB : Hid (((wr.alloc (.cells (rowB s.data.toList sp) 5 ((rowB s.data.toList sp).size, (rowB s.data.toList sp).size + 1))).drew).heap[wr.heap.size]? =
        some (.cells (rowB (xorTo key.data.toList nonce.data.toList s.data.toList 0) sp) 5 ((rowB s.data.toList sp).size, (rowB s.data.toList sp).size + 1))) := by
        rw [xorTo_zero]; exact heap_alloc_at _ _
      have BB2 : Hid (Below w.heap.size w ((wr.alloc (.cells (rowB s.data.toList sp) 5 ((rowB s.data.toList sp).size, (rowB s.data.toList sp).size + 1))).drew)) :=
        (BB.out.alloc BB.out.size _).drew
      have hR : s.size ≤ (rowB s.data.toList sp).size := by rw [rowB_size, HL.out]; omega
      have hbase : Hid (w.heap.size ≤ wr.heap.size) := Lib.hid BB.out.size
      generalize (wr.alloc (.cells (rowB s.data.toList sp) 5 ((rowB s.data.toList sp).size, (rowB s.data.toList sp).size + 1))).drew = w1 at HB BB2 ⊢
      generalize (rowB s.data.toList sp).size = R at HB hR
      generalize grownCap wr s.size 0 5 = cap
      generalize wr.heap.size = g at HB hbase ⊢
      clear BB hd hk1 hm0
      go_loopw [42] (fun k wr => ∃ q : Nat, k = .int .i64 q ∧ Hid (q ≤ s.size) ∧
        Hid (wr.heap[g]? = some (.cells (rowB (xorTo key.data.toList nonce.data.toList s.data.toList q) sp) 5 (R, R + 1))) ∧ Hid (Below w.heap.size w wr)) (fun k _ => s.size - (intOf k).toNat)
      case atStart => exact ⟨0, rfl, Lib.hid (Nat.zero_le _), HB, BB2⟩
      case round =>
        clear HB BB2
        obtain ⟨q, rfl, Hq, HB, BB⟩ := hrel
        have hq1 := Hq.out
        by_cases hq3 : q < s.size
        · have hl : q < s.data.toList.length := by rw [HL.out]; exact hq3
          have hl' : q < (xorTo key.data.toList nonce.data.toList s.data.toList q).length := by rw [xorTo_length]; exact hl
          have hT3 : q < M.length := by omega
          have hc := cell_of_rowB HB.out q hl'
          rw [xorTo_get _ _ _ _ hl hl'] at hc
          have hf := free_of_rowB HB.out (by rw [xorTo_length, HL.out]; exact hR) q hl'
          have lb := lt_of_heap HB.out
          have hxor : bits .xor .u8 ((s.data.toList[q].toNat : Nat) : Int) (((⟨M.toArray⟩ : ByteArray)[q]'hT3).toNat : Int) = ((s.data.toList[q] ^^^ streamAt key.data.toList nonce.data.toList q).toNat : Int) := by
            have e : (⟨M.toArray⟩ : ByteArray)[q]'hT3 = streamAt key.data.toList nonce.data.toList q := by
              rw [get_data (⟨M.toArray⟩ : ByteArray) q hT3]; exact HG.out q hq3
            rw [xor8, e]
          have HX := Lib.hid hxor
          clear hxor
          have hset := xorTo_succ key.data.toList nonce.data.toList s.data.toList q hl
          generalize s.data.toList[q] ^^^ streamAt key.data.toList nonce.data.toList q = cx at HX hset
          generalize s.data.toList[q] = c at hc HX
          have HSet := Lib.hid hset
          clear hset
          go_wp2_with fail
          refine wp_region_tail 9 (by kernel_rfl) (by kernel_rfl) ?_
          simp only [List.take_succ_cons, List.take_zero, List.drop_succ_cons, List.drop_zero]
          repeat (go_big_quiet_step (fail))
          refine wpQuiet_nil ?_
          rintro _ ⟨x2, rfl⟩
          rw [HX.out]
          go_wp2_with fail
          obtain ⟨S, U⟩ := store_rowB (x := x2) (v := cx) HB.out hl'
          rw [HSet.out] at S
          go_roundw
          case rel => exact ⟨q + 1, by go_num, Lib.hid (by omega), Lib.hid S, Lib.hid (BB.out.grown U BB.out.size (by rintro _ ⟨⟩; exact hbase.out))⟩
          case measure => simp [intOf]; omega
        · obtain rfl : q = s.size := by omega
          have hconv := string_of_rowB (cap := cap) HB.out
          rw [xorTo_length, HL.out, xorTo_all _ _ _ _ (by rw [HL.out]; omega)] at hconv
          go_wp2_with fail
          go_ret2
          exact ⟨rfl, ext_of BB.out⟩

set_option maxRecDepth 100000 in
set_option maxHeartbeats 1000000 in
theorem rxor_none (key nonce s : ByteArray) (w : World) (hk : key.size = 32) (hn : nonce.size = 12) (h0 : s.size = 0) :
    Calls Tryd.prog 17 #[.string key, .string nonce, .string s] w fun r w' =>
      r = .returned (.tuple #[.string ⟨(xorB key.data.toList nonce.data.toList s.data.toList).toArray⟩, .int .i64 0]) ∧ ∃ x, w' = ext w x := by
  have hnil : s.data.toList = [] := List.length_eq_zero_iff.1 (by rw [Array.length_toList]; exact h0)
  have e0 : xorB key.data.toList nonce.data.toList s.data.toList = [] := by rw [hnil]; rfl
  have E0 := Lib.hid e0
  obtain rfl : s = ⟨#[]⟩ := ByteArray.ext (Array.toList_inj.1 (by rw [hnil]))
  clear e0 hnil h0
  go_enter Tryd.func17, Tryd.ntmps17
  go_wp2_with fail
  refine wp_loop_rounds 2 ?_
  rw [rounds_succ]
  go_wp2_with fail
  refine (rblock_any key nonce 1 _ hk hn (by omega)).mono ?_
  rintro _ _ ⟨rfl, x, rfl⟩
  have BB := Lib.hid (ext_below w x)
  generalize ext w x = w1 at BB ⊢
  have hb := block_length key.data.toList 1 nonce.data.toList
  obtain ⟨sp, hbs⟩ := bytes_of_string w1 ⟨#[]⟩
  rw [show (⟨#[]⟩ : ByteArray).data.toList = [] from rfl, show (⟨#[]⟩ : ByteArray).size = 0 from rfl] at hbs
  go_wp2_with fail
  rw [rounds_succ]
  generalize block key.data.toList 1 nonce.data.toList = M at hb ⊢
  have hM0 : ¬ (M.length : Int) < 0 := by omega
  go_wp2_with fail
  clear hbs
  refine wp_loop_rounds 1 ?_
  rw [rounds_succ]
  have HB : Hid (((w1.alloc (.cells (rowB [] sp) 5 ((rowB [] sp).size, (rowB [] sp).size + 1))).drew).heap[w1.heap.size]? =
    some (.cells (rowB [] sp) 5 ((rowB [] sp).size, (rowB [] sp).size + 1))) := heap_alloc_at _ _
  have BB2 : Hid (Below w.heap.size w ((w1.alloc (.cells (rowB [] sp) 5 ((rowB [] sp).size, (rowB [] sp).size + 1))).drew)) :=
    (BB.out.alloc BB.out.size _).drew
  generalize (w1.alloc (.cells (rowB [] sp) 5 ((rowB [] sp).size, (rowB [] sp).size + 1))).drew = w2 at HB BB2 ⊢
  generalize (rowB [] sp).size = R at HB
  generalize grownCap w1 0 0 5 = cap
  have hconv := string_of_rowB (cap := cap) HB.out
  rw [List.length_nil] at hconv
  go_wp2_with fail
  go_ret2
  refine ⟨?_, ext_of BB2.out⟩
  show _ = Ending.returned (.tuple #[.string ⟨(xorB key.data.toList nonce.data.toList []).toArray⟩, .int .i64 0])
  rw [E0.out]
  rfl
theorem rxor_any (key nonce s : ByteArray) (w : World) (hk : key.size = 32) (hn : nonce.size = 12) (hs : s.size ≤ 1048576) :
    Calls Tryd.prog 17 #[.string key, .string nonce, .string s] w fun r w' =>
      r = .returned (.tuple #[.string ⟨(xorB key.data.toList nonce.data.toList s.data.toList).toArray⟩, .int .i64 0]) ∧ ∃ x, w' = ext w x := by
  by_cases h0 : 0 < s.size
  · exact rxor_some key nonce s w hk hn hs h0
  · exact rxor_none key nonce s w hk hn (by omega)
end Go.Proofs.YtjjadgcpmfmlfaaDoor
