/- stream.Block where it refuses; stream.Xor. · Package box. · What is sealed is opened: plain. -/
import Derived.Test.YtnkmckdefiblhaaGreatDoorG7
import Derived.Test.YtnkmckdefiblhaaGreatDoorProg
import Derived.Test.YtnkmckdefiblhaaGreatDoorG9
import Derived.Lib.Strings
namespace Go.Proofs.YtnkmckdefiblhaaGreatDoor
open Go.RowKit

set_option maxRecDepth 100000 in
set_option maxHeartbeats 400000 in
theorem block_bad (key nonce : ByteArray) (n : Int) (w : World) (h : ¬ (key.size = 32 ∧ nonce.size = 12 ∧ 0 ≤ n ∧ n < 4294967296)) :
    Calls Tryz.prog 54 #[.string key, .int .i64 n, .string nonce] w fun r w' =>
      r = .returned (.tuple #[.string ⟨#[]⟩, errV 1]) ∧ ∃ x, w' = ext w x := by
  by_cases hk : key.size = 32
  · by_cases hn : nonce.size = 12
    · by_cases h0 : n < 0
      · go_enter Tryz.func54, Tryz.ntmps54
        go_wp2
        go_ret2
        exact ⟨rfl, ext_refl _⟩
      · have h1 : (4294967296 : Int) ≤ n := by omega
        clear h
        go_enter Tryz.func54, Tryz.ntmps54
        go_wp2
        go_ret2
        exact ⟨rfl, ext_refl _⟩
    · have hb : ((nonce.size : Int) != 12) = true := by rw [bne_iff_ne]; omega
      clear h hn
      go_enter Tryz.func54, Tryz.ntmps54
      go_wp2
      go_ret2
      exact ⟨rfl, ext_refl _⟩
  · have hb : ((key.size : Int) != 32) = true := by rw [bne_iff_ne]; omega
    clear h hk
    go_enter Tryz.func54, Tryz.ntmps54
    go_wp2
    go_ret2
    exact ⟨rfl, ext_refl _⟩

/-- Byte i of the stream. -/
def streamAt (key nonce : List UInt8) (i : Nat) : UInt8 := (block key (1 + i / 64) nonce).getD (i % 64) 0
/-- The first d bytes taken together with the stream's. -/
def xorTo (key nonce s : List UInt8) (d : Nat) : List UInt8 := s.mapIdx fun i c => if i < d then c ^^^ streamAt key nonce i else c
def xorB (key nonce s : List UInt8) : List UInt8 := s.mapIdx fun i c => c ^^^ streamAt key nonce i
theorem xorTo_length (key nonce s : List UInt8) (d : Nat) : (xorTo key nonce s d).length = s.length := by simp [xorTo]
theorem xorB_length (key nonce s : List UInt8) : (xorB key nonce s).length = s.length := by simp [xorB]
theorem xorTo_zero (key nonce s : List UInt8) : xorTo key nonce s 0 = s := by
  apply List.ext_getElem?; intro i; simp [xorTo]
theorem xorTo_all (key nonce s : List UInt8) (d : Nat) (h : s.length ≤ d) : xorTo key nonce s d = xorB key nonce s := by
  apply List.ext_getElem?; intro i
  simp only [xorTo, xorB, List.getElem?_mapIdx]
  rcases Nat.lt_or_ge i s.length with hi | hi
  · rw [List.getElem?_eq_getElem hi]; simp only [Option.map_some]; rw [if_pos (by omega)]
  · rw [List.getElem?_eq_none hi]; rfl
theorem xorTo_succ (key nonce s : List UInt8) (d : Nat) (h : d < s.length) : (xorTo key nonce s d).set d (s[d] ^^^ streamAt key nonce d) = xorTo key nonce s (d + 1) := by
  apply List.ext_getElem?; intro i
  rw [List.getElem?_set, xorTo_length]
  simp only [xorTo, List.getElem?_mapIdx]
  by_cases hi : d = i
  · subst hi; simp [h]
  · rw [if_neg hi]
    rcases Nat.lt_or_ge i s.length with hl | hl
    · rw [List.getElem?_eq_getElem hl]; simp only [Option.map_some]
      by_cases h2 : i < d
      · rw [if_pos h2, if_pos (by omega)]
      · rw [if_neg h2, if_neg (by omega)]
    · rw [List.getElem?_eq_none hl]; rfl
theorem xorTo_get (key nonce s : List UInt8) (d : Nat) (h : d < s.length) (h' : d < (xorTo key nonce s d).length) : (xorTo key nonce s d)[d] = s[d] := by
  simp [xorTo]

theorem block_length (key : List UInt8) (n : Nat) (nonce : List UInt8) : (block key n nonce).length = 64 := outB_length _ _ 16

set_option maxRecDepth 100000 in
set_option maxHeartbeats 1000000 in
theorem xor_some (key nonce s : ByteArray) (w : World) (hk : key.size = 32) (hn : nonce.size = 12) (hs : s.size ≤ 1048576) (h0 : 0 < s.size) :
    Calls Tryz.prog 158 #[.string key, .string nonce, .string s] w fun r w' =>
      r = .returned (.tuple #[.string ⟨(xorB key.data.toList nonce.data.toList s.data.toList).toArray⟩, .nilIface]) ∧ ∃ x, w' = ext w x := by
  obtain ⟨sp, hbs⟩ := bytes_of_string w s
  have hlen : s.data.toList.length = s.size := by rw [Array.length_toList]; rfl
  go_enter Tryz.func158, Tryz.ntmps158
  go_wp2_with fail
  clear hbs
  have HB : Hid (((w.alloc (.cells (rowB s.data.toList sp) 5 ((rowB s.data.toList sp).size, (rowB s.data.toList sp).size + 1))).drew).heap[w.heap.size]? =
    some (.cells (rowB (xorTo key.data.toList nonce.data.toList s.data.toList 0) sp) 5 ((rowB s.data.toList sp).size, (rowB s.data.toList sp).size + 1))) := by
    rw [xorTo_zero]; exact heap_alloc_at _ _
  have BB : Hid (Below w.heap.size w ((w.alloc (.cells (rowB s.data.toList sp) 5 ((rowB s.data.toList sp).size, (rowB s.data.toList sp).size + 1))).drew)) :=
    ((Below.refl _ _).alloc (Nat.le_refl _) _).drew
  have hM : s.size ≤ (rowB s.data.toList sp).size := by rw [rowB_size, hlen]; omega
  generalize (w.alloc (.cells (rowB s.data.toList sp) 5 ((rowB s.data.toList sp).size, (rowB s.data.toList sp).size + 1))).drew = w1 at HB BB ⊢
  generalize (rowB s.data.toList sp).size = M at HB hM
  generalize grownCap w s.size 0 5 = cap
  have HL := Lib.hid hlen
  clear hlen
  go_loopw [9] (fun i wr => ∃ p : Nat, i = .int .i64 p ∧ Hid (p % 64 = 0) ∧ p < s.size + 64 ∧
      Hid (wr.heap[w.heap.size]? = some (.cells (rowB (xorTo key.data.toList nonce.data.toList s.data.toList p) sp) 5 (M, M + 1))) ∧ Hid (Below w.heap.size w wr)) (fun i _ => s.size + 64 - (intOf i).toNat)
  case atStart => exact ⟨0, rfl, Lib.hid rfl, by omega, HB, BB⟩
  case round =>
    clear HB BB
    obtain ⟨p, rfl, Hp, hp, HB, BB⟩ := hrel
    by_cases hlt : p < s.size
    · have hpb : decide ((p : Int) < s.size) = true := decide_eq_true (by omega)
      go_wp2_with fail
      refine (block_any key nonce (1 + p / 64) _ hk hn (by omega) _ (by omega)).mono ?_
      rintro _ _ ⟨rfl, x, rfl⟩
      have HB2 := Lib.hid ((ext_heap (x := x) (lt_of_heap HB.out)).trans HB.out)
      have BB2 := Lib.hid (BB.out.trans ((ext_below wr x).mono BB.out.size))
      generalize ext wr x = w2 at HB2 BB2 ⊢
      clear HB BB
      obtain ⟨T, hT⟩ : ∃ T : ByteArray, T = ⟨(block key.data.toList (1 + p / 64) nonce.data.toList).toArray⟩ := ⟨_, rfl⟩
      rw [← hT]
      have HT := Lib.hid hT
      clear hT
      go_wp2_with fail
      clear hpb
      go_loopw [12] (fun k wr => ∃ q : Nat, k = .int .i64 q ∧ Hid (p ≤ q) ∧ Hid (q ≤ p + 64 ∧ q ≤ s.size) ∧
        Hid (wr.heap[w.heap.size]? = some (.cells (rowB (xorTo key.data.toList nonce.data.toList s.data.toList q) sp) 5 (M, M + 1))) ∧ Hid (Below w.heap.size w wr)) (fun k _ => s.size - (intOf k).toNat)
      case atStart => exact ⟨p, rfl, Nat.le_refl _, ⟨by omega, by omega⟩, HB2, BB2⟩
      case round =>
        clear HB2 BB2
        obtain ⟨q, rfl, Hq1, Hq2, HB, BB⟩ := hrel
        have hq1 := Hq1.out
        have hq2 := Hq2.out
        by_cases hq : q < s.size ∧ q < p + 64
        · obtain ⟨hq3, hq4⟩ := hq
          have hl : q < s.data.toList.length := by rw [HL.out]; exact hq3
          have hl' : q < (xorTo key.data.toList nonce.data.toList s.data.toList q).length := by rw [xorTo_length]; exact hl
          have hT2 : T.size = 64 := by rw [HT.out]; exact block_length _ _ _
          have hT3 : q - p < T.size := by omega
          have hc := cell_of_rowB HB.out q hl'
          rw [xorTo_get _ _ _ _ hl hl'] at hc
          have hf := free_of_rowB HB.out (by rw [xorTo_length, HL.out]; exact hM) q hl'
          have lb := lt_of_heap HB.out
          have hxor : bits .xor .u8 ((s.data.toList[q].toNat : Nat) : Int) ((T[q - p].toNat : Nat) : Int) = ((s.data.toList[q] ^^^ streamAt key.data.toList nonce.data.toList q).toNat : Int) := by
            have e : T[q - p] = streamAt key.data.toList nonce.data.toList q := by
              have hp64 := Hp.out
              unfold streamAt
              rw [get_data T (q - p) hT3, HT.out, show (q % 64) = q - p by omega, show 1 + q / 64 = 1 + p / 64 by omega]
            rw [xor8, e]
          have hT4 : (q : Int) - p < 64 := by omega
          have hd1 : decide ((q : Int) < s.size) = true := decide_eq_true (by omega)
          have hd2 : decide ((q : Int) < p + 64) = true := decide_eq_true (by omega)
          have HX := Lib.hid hxor
          clear hxor
          have hset := xorTo_succ key.data.toList nonce.data.toList s.data.toList q hl
          generalize s.data.toList[q] ^^^ streamAt key.data.toList nonce.data.toList q = cx at HX hset
          generalize s.data.toList[q] = c at hc HX
          have HSet := Lib.hid hset
          clear hset
          go_wp2_with fail
          refine wp_region_tail 11 (by kernel_rfl) (by kernel_rfl) ?_
          simp only [List.take_succ_cons, List.take_zero, List.drop_succ_cons, List.drop_zero]
          repeat (go_big_quiet_step (fail))
          refine wpQuiet_nil ?_
          rintro _ ⟨x2, rfl⟩
          rw [HX.out]
          go_wp2_with fail
          obtain ⟨S, U⟩ := store_rowB (x := x2) (v := cx) HB.out hl'
          rw [HSet.out] at S
          go_roundw
          case rel => exact ⟨q + 1, by go_num, Lib.hid (by omega), Lib.hid ⟨by omega, by omega⟩, Lib.hid S, Lib.hid (BB.out.grown U BB.out.size (by rintro _ ⟨⟩; exact Nat.le_refl _))⟩
          case measure => simp [intOf]; omega
        · have HB2 : Hid (wr.heap[w.heap.size]? = some (.cells (rowB (xorTo key.data.toList nonce.data.toList s.data.toList (p + 64)) sp) 5 (M, M + 1))) := by
            by_cases hqs : q = s.size
            · have := HB.out
              rw [xorTo_all _ _ _ _ (by rw [HL.out]; omega)] at this
              refine Lib.hid ?_
              rw [xorTo_all _ _ _ _ (by rw [HL.out]; omega)]
              exact this
            · rw [show p + 64 = q by omega]; exact HB
          clear HB
          by_cases hqs : q < s.size
          · have hd1 : decide ((q : Int) < s.size) = true := decide_eq_true (by omega)
            have hd2 : decide ((q : Int) < p + 64) = false := decide_eq_false (by omega)
            go_wp2_with fail
            go_roundw
            case rel => exact ⟨p + 64, by go_num, Lib.hid (by have := Hp.out; omega), by omega, HB2, BB⟩
            case measure => simp [intOf]; omega
          · have hd1 : decide ((q : Int) < s.size) = false := decide_eq_false (by omega)
            go_wp2_with fail
            go_roundw
            case rel => exact ⟨p + 64, by go_num, Lib.hid (by have := Hp.out; omega), by omega, HB2, BB⟩
            case measure => simp [intOf]; omega
    · have hpb : decide ((p : Int) < s.size) = false := decide_eq_false (by omega)
      have hpz : ((p : Int) == 0) = false := by rw [beq_eq_false_iff_ne]; omega
      have hconv := string_of_rowB (cap := cap) HB.out
      rw [xorTo_length, HL.out, xorTo_all _ _ _ _ (by rw [HL.out]; omega)] at hconv
      go_wp2_with fail
      go_ret2
      exact ⟨rfl, ext_of BB.out⟩

set_option maxRecDepth 100000 in
set_option maxHeartbeats 1000000 in
theorem xor_none (key nonce s : ByteArray) (w : World) (hk : key.size = 32) (hn : nonce.size = 12) (h0 : s.size = 0) :
    Calls Tryz.prog 158 #[.string key, .string nonce, .string s] w fun r w' =>
      r = .returned (.tuple #[.string ⟨(xorB key.data.toList nonce.data.toList s.data.toList).toArray⟩, .nilIface]) ∧ ∃ x, w' = ext w x := by
  obtain ⟨sp, hbs⟩ := bytes_of_string w s
  have hnil : s.data.toList = [] := List.length_eq_zero_iff.1 (by rw [Array.length_toList]; exact h0)
  have e0 : xorB key.data.toList nonce.data.toList s.data.toList = [] := by rw [hnil]; rfl
  have E0 := Lib.hid e0
  rw [hnil, h0] at hbs
  clear e0 hnil
  go_enter Tryz.func158, Tryz.ntmps158
  go_wp2_with fail
  clear hbs
  have HB : Hid (((w.alloc (.cells (rowB [] sp) 5 ((rowB [] sp).size, (rowB [] sp).size + 1))).drew).heap[w.heap.size]? =
    some (.cells (rowB [] sp) 5 ((rowB [] sp).size, (rowB [] sp).size + 1))) := heap_alloc_at _ _
  have BB : Hid (Below w.heap.size w ((w.alloc (.cells (rowB [] sp) 5 ((rowB [] sp).size, (rowB [] sp).size + 1))).drew)) :=
    ((Below.refl _ _).alloc (Nat.le_refl _) _).drew
  generalize (w.alloc (.cells (rowB [] sp) 5 ((rowB [] sp).size, (rowB [] sp).size + 1))).drew = w1 at HB BB ⊢
  generalize (rowB [] sp).size = M at HB
  generalize grownCap w 0 0 5 = cap
  refine wp_loop_rounds 2 ?_
  rw [rounds_succ]
  go_wp2_with fail
  refine (block_any key nonce 1 _ hk hn (by omega) _ rfl).mono ?_
  rintro _ _ ⟨rfl, x, rfl⟩
  have HB2 := Lib.hid ((ext_heap (x := x) (lt_of_heap HB.out)).trans HB.out)
  have BB2 := Lib.hid (BB.out.trans ((ext_below w1 x).mono BB.out.size))
  generalize ext w1 x = w2 at HB2 BB2 ⊢
  clear HB BB
  go_wp2_with fail
  refine wp_loop_rounds 1 ?_
  rw [rounds_succ]
  go_wp2_with fail
  rw [rounds_succ]
  have hconv := string_of_rowB (cap := cap) HB2.out
  rw [List.length_nil] at hconv
  go_wp2_with fail
  go_ret2
  exact ⟨by rw [E0.out]; rfl, ext_of BB2.out⟩
theorem xor_any (key nonce s : ByteArray) (w : World) (hk : key.size = 32) (hn : nonce.size = 12) (hs : s.size ≤ 1048576) :
    Calls Tryz.prog 158 #[.string key, .string nonce, .string s] w fun r w' =>
      r = .returned (.tuple #[.string ⟨(xorB key.data.toList nonce.data.toList s.data.toList).toArray⟩, .nilIface]) ∧ ∃ x, w' = ext w x := by
  by_cases h0 : 0 < s.size
  · exact xor_some key nonce s w hk hn hs h0
  · exact xor_none key nonce s w hk hn (by omega)

end Go.Proofs.YtnkmckdefiblhaaGreatDoor
namespace Go.Proofs.YtnkmckdefiblhaaGreatDoor
open Go.RowKit

/-- What tells that nothing was changed. -/
def tagB (key nonce wth s : ByteArray) : List UInt8 := markB 103 [key, nonce, wth, s]
theorem tagB_length (key nonce wth s : ByteArray) : (tagB key nonce wth s).length = 16 := by unfold tagB markB; rw [List.length_take, sumB_length]; omega
theorem msg4 (k : UInt8) (a b c d : ByteArray) : (markMsg k [a, b, c, d]).length = 33 + a.size + b.size + c.size + d.size := by
  have n8 : ∀ n : Int, (numB n).length = 8 := fun n => numTo_length _ _
  have hl : ∀ s : ByteArray, s.data.toList.length = s.size := fun s => by rw [Array.length_toList]; rfl
  unfold markMsg
  simp only [List.length_cons, List.length_nil, markTo, List.length_append, n8, hl, List.getD_cons_zero, List.getD_cons_succ]
  omega

set_option maxRecDepth 100000 in
set_option maxHeartbeats 1000000 in
theorem tag_any (key nonce wth s : ByteArray) (w : World) (hlen : key.size + nonce.size + wth.size + s.size ≤ 140737488350000) (hR : Rounds w) :
    Calls Tryz.prog 157 #[.string key, .string nonce, .string wth, .string s] w fun r w' => r = .returned (.string ⟨(tagB key nonce wth s).toArray⟩) ∧ ∃ x, w' = ext w x := by
  have R := Lib.hid hR
  clear hR
  go_enter Tryz.func157, Tryz.ntmps157
  go_wp2_with fail
  refine (mark_any 103 103 rfl (some ⟨w.heap.size, 0, none⟩) [key, nonce, wth, s] 4 rfl 4 _ ?_ (by rw [msg4]; omega) (Rounds_alloc R.out _)).mono ?_
  · intro j t hj
    refine ⟨w.heap.size, 0, rfl, by simp, ?_⟩
    rw [Nat.zero_add, World.cell?_alloc_new]
    match j, hj with
    | 0, hj => cases hj; rfl
    | 1, hj => cases hj; rfl
    | 2, hj => cases hj; rfl
    | 3, hj => cases hj; rfl
    | (j + 4), hj => simp at hj
  rintro _ w2 ⟨rfl, hx⟩
  go_wp2_with fail
  go_ret
  exact ⟨rfl, ext_trans (ext_alloc _ (ext_refl w)) hx⟩

/-- What a text is sealed as. -/
def sealB (key nonce wth text : ByteArray) : List UInt8 :=
  tagB key nonce wth ⟨(xorB key.data.toList nonce.data.toList text.data.toList).toArray⟩ ++ xorB key.data.toList nonce.data.toList text.data.toList
theorem size_toL (s : ByteArray) : s.data.toList.length = s.size := by rw [Array.length_toList]; rfl
theorem sealB_length (key nonce wth text : ByteArray) : (sealB key nonce wth text).length = 16 + text.size := by
  unfold sealB; rw [List.length_append, tagB_length, xorB_length, size_toL]

set_option maxHeartbeats 1000000 in
theorem seal_any (key nonce wth text : ByteArray) (w : World) (hl : text.size ≤ 400) (hk : key.size = 32) (hn : nonce.size = 12) (hw : wth.size ≤ 1048576) (hR : Rounds w) :
    Calls Tryz.prog 152 #[.string key, .string nonce, .string wth, .string text] w fun r w' => r = .returned (.tuple #[.string ⟨(sealB key nonce wth text).toArray⟩, .nilIface]) ∧ ∃ x, w' = ext w x := by
  have R := Lib.hid hR
  have K1 := Lib.hid hk
  have K2 := Lib.hid hn
  clear hR hk hn
  go_enter Tryz.func152, Tryz.ntmps152
  go_wp2_with fail
  refine (xor_any key nonce text _ K1.out K2.out (by omega)).mono ?_
  rintro _ w2 ⟨rfl, hx⟩
  have hxl : (xorB key.data.toList nonce.data.toList text.data.toList).length = text.size := by rw [xorB_length, size_toL]
  generalize hX : xorB key.data.toList nonce.data.toList text.data.toList = X at hxl ⊢
  have HX := Lib.hid hX
  clear hX
  go_wp2_with fail
  refine (tag_any key nonce wth ⟨X.toArray⟩ w2 (by rw [K1.out, K2.out, show (⟨X.toArray⟩ : ByteArray).size = X.length from List.size_toArray]; omega) (Rounds_ext R.out hx)).mono ?_
  rintro _ w3 ⟨rfl, hx3⟩
  have ht := tagB_length key nonce wth ⟨X.toArray⟩
  generalize hT : tagB key nonce wth ⟨X.toArray⟩ = T at ht ⊢
  have HT := Lib.hid hT
  clear hT
  have hnb : ¬ 9223372036854775807 < T.length + X.length := by omega
  go_wp2_with fail
  go_ret2
  have hse : sealB key nonce wth text = T ++ X := by unfold sealB; rw [HX.out, HT.out]
  exact ⟨by rw [hse]; rfl, ext_trans hx hx3⟩

/-- It was sealed so. -/
def opens (key nonce wth s : ByteArray) : Prop := 16 ≤ s.size ∧ s.size ≤ 416 ∧ tagB key nonce wth (s.extract 16 s.size) = s.data.toList.take 16
def openB (key nonce s : ByteArray) : List UInt8 := xorB key.data.toList nonce.data.toList (s.data.toList.drop 16)

theorem front_toList (s : ByteArray) (n : Nat) : (s.extract 0 n).toList = s.data.toList.take n := by
  rw [Lib.extract_toList, List.drop_zero, Nat.sub_zero]
theorem rest_toList (s : ByteArray) (n : Nat) : (s.extract n s.size).data.toList = s.data.toList.drop n := by
  have h := data_extract s.data.toList n s.size
  rw [str_eta] at h
  rw [h, List.take_of_length_le (by rw [List.length_drop, size_toL]; omega)]
set_option maxHeartbeats 2000000 in
theorem open_any (key nonce wth s : ByteArray) (w : World) (hk : key.size = 32) (hn : nonce.size = 12) (hw : wth.size ≤ 1048576) (hR : Rounds w) (h : opens key nonce wth s) :
    Calls Tryz.prog 128 #[.string key, .string nonce, .string wth, .string s] w fun r w' => r = .returned (.tuple #[.string ⟨(openB key nonce s).toArray⟩, .nilIface]) ∧ ∃ x, w' = ext w x := by
  have R := Lib.hid hR
  have K1 := Lib.hid hk
  have K2 := Lib.hid hn
  obtain ⟨h16, h416, ht⟩ := h
  have HT := Lib.hid ht
  clear hR hk hn ht
  go_enter Tryz.func128, Tryz.ntmps128
  go_wp2_with fail
  refine (block_any key nonce 0 _ K1.out K2.out (by omega) 0 rfl).mono ?_
  rintro _ w2 ⟨rfl, hx⟩
  have R2 := Lib.hid (Rounds_ext R.out hx)
  go_wp2_with fail
  have i0 : (16 : Int) ≤ s.size := by omega
  have d16 : decide ((s.size : Int) < 16) = false := decide_eq_false (by omega)
  have d416 : decide (416 < (s.size : Int)) = false := decide_eq_false (by omega)
  refine wp_region_ext (by kernel_rfl) (by kernel_rfl) ?_
  repeat (go_big_quiet_step ((go_at_call 157; refine (tag_any key nonce wth _ _ (by rw [K1.out, K2.out, ByteArray.size_extract]; omega) (Rounds_ext R2.out ⟨_, rfl⟩)).mono ?_; rintro _ _ ⟨rfl, hx⟩; exact ⟨rfl, ext_trans ⟨_, rfl⟩ hx⟩)))
  refine wpQuiet_nil ?_
  rintro _ ⟨x1, rfl⟩
  have hne : (tagB key nonce wth (s.extract 16 s.size) == (s.extract 0 16).toList) = true := by
    rw [beq_iff_eq, front_toList]; exact HT.out
  have hne : (!(tagB key nonce wth (s.extract 16 s.size) == (s.extract 0 16).toList)) = false := by rw [hne]; rfl
  rw [hne]
  go_wp2_with fail
  refine (xor_any key nonce _ _ K1.out K2.out (by rw [ByteArray.size_extract]; omega)).mono ?_
  rintro _ w3 ⟨rfl, hx3⟩
  go_wp2_with fail
  go_ret2
  have e : openB key nonce s = xorB key.data.toList nonce.data.toList (List.take (s.size - 16) (List.drop 16 s.data.toList)) := by
    unfold openB; rw [List.take_of_length_le (by rw [List.length_drop, size_toL]; omega)]
  exact ⟨by rw [e]; rfl, ext_trans (ext_trans hx ⟨x1, rfl⟩) hx3⟩
end Go.Proofs.YtnkmckdefiblhaaGreatDoor
namespace Go.Proofs.YtnkmckdefiblhaaGreatDoor
open Go.RowKit

theorem xorB_twice (k n s : List UInt8) : xorB k n (xorB k n s) = s := by
  apply List.ext_getElem?
  intro i
  simp only [xorB, List.getElem?_mapIdx]
  cases s[i]? with
  | none => rfl
  | some c => simp [UInt8.xor_assoc]
theorem sealB_front (key nonce wth text : ByteArray) : (sealB key nonce wth text).take 16 = tagB key nonce wth ⟨(xorB key.data.toList nonce.data.toList text.data.toList).toArray⟩ := by
  unfold sealB
  rw [List.take_left' (tagB_length ..)]
theorem sealB_rest (key nonce wth text : ByteArray) : (sealB key nonce wth text).drop 16 = xorB key.data.toList nonce.data.toList text.data.toList := by
  unfold sealB
  rw [List.drop_left' (tagB_length ..)]
/-- What is sealed is opened. -/
theorem opens_seal (key nonce wth text : ByteArray) (h : text.size ≤ 400) : opens key nonce wth ⟨(sealB key nonce wth text).toArray⟩ := by
  have hl : (⟨(sealB key nonce wth text).toArray⟩ : ByteArray).size = 16 + text.size := by
    show (sealB key nonce wth text).toArray.size = _
    rw [List.size_toArray, sealB_length]
  refine ⟨by omega, by omega, ?_⟩
  have e : (⟨(sealB key nonce wth text).toArray⟩ : ByteArray).extract 16 (⟨(sealB key nonce wth text).toArray⟩ : ByteArray).size = ⟨(xorB key.data.toList nonce.data.toList text.data.toList).toArray⟩ := by
    apply ByteArray.ext
    apply Array.toList_inj.1
    rw [rest_toList]
    exact sealB_rest ..
  rw [e]
  exact (sealB_front ..).symm
theorem openB_seal (key nonce wth text : ByteArray) : openB key nonce ⟨(sealB key nonce wth text).toArray⟩ = text.data.toList := by
  unfold openB
  show xorB _ _ ((sealB key nonce wth text).drop 16) = _
  rw [sealB_rest, xorB_twice]

end Go.Proofs.YtnkmckdefiblhaaGreatDoor
