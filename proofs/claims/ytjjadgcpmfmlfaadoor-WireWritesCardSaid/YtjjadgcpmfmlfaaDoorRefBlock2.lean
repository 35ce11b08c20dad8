/- oublietteref.Block (the walk). -/
import Derived.Test.YtjjadgcpmfmlfaaDoorProg
import Derived.Test.YtjjadgcpmfmlfaaDoorRefBlock
import Derived.Test.YtjjadgcpmfmlfaaDoorOwn
namespace Go.Proofs.YtjjadgcpmfmlfaaDoor
open Go.RowKit

def exp16 : List UInt8 := [101, 120, 112, 97, 110, 100, 32, 51, 50, 45, 98, 121, 116, 101, 32, 107]
def lst16 (A : Nat → BitVec 32) : List Nat := (List.range 16).map fun j => (A j).toNat
theorem lst16_length (A : Nat → BitVec 32) : (lst16 A).length = 16 := by simp [lst16]
theorem start_is (key nonce : List UInt8) (n : Nat) : wordsL (exp16 ++ key) 12 ++ [(BitVec.ofNat 32 n).toNat] ++ wordsL nonce 3 = lst16 (nonced key n nonce 3) := by
  have hA : ∀ j, wordAt (exp16 ++ key) (16 + j) = wordAt key j := fun j => by
    unfold wordAt
    have g : ∀ i, (exp16 ++ key).getD (16 + i) 0 = key.getD i 0 := fun i => by
      simp only [List.getD_eq_getElem?_getD]
      rw [List.getElem?_append_right (by simp [exp16])]
      simp [exp16]
    rw [show 16 + j + 1 = 16 + (j + 1) by omega, show 16 + j + 2 = 16 + (j + 2) by omega, show 16 + j + 3 = 16 + (j + 3) by omega, g, g, g, g]
  have h0 : wordAt (exp16 ++ key) 0 = consts 0 := by show wordAt exp16 0 = _; decide
  have h1 : wordAt (exp16 ++ key) 4 = consts 1 := by show wordAt exp16 4 = _; decide
  have h2 : wordAt (exp16 ++ key) 8 = consts 2 := by show wordAt exp16 8 = _; decide
  have h3 : wordAt (exp16 ++ key) 12 = consts 3 := by show wordAt exp16 12 = _; decide
  show [(wordAt (exp16 ++ key) 0).toNat, (wordAt (exp16 ++ key) 4).toNat, (wordAt (exp16 ++ key) 8).toNat, (wordAt (exp16 ++ key) 12).toNat, (wordAt (exp16 ++ key) (16 + 0)).toNat, (wordAt (exp16 ++ key) (16 + 4)).toNat, (wordAt (exp16 ++ key) (16 + 8)).toNat, (wordAt (exp16 ++ key) (16 + 12)).toNat,
    (wordAt (exp16 ++ key) (16 + 16)).toNat, (wordAt (exp16 ++ key) (16 + 20)).toNat, (wordAt (exp16 ++ key) (16 + 24)).toNat, (wordAt (exp16 ++ key) (16 + 28)).toNat, (BitVec.ofNat 32 n).toNat, (wordAt nonce 0).toNat, (wordAt nonce 4).toNat, (wordAt nonce 8).toNat] = _
  rw [h0, h1, h2, h3]
  simp only [hA]
  rfl
/-- A slice of words as a row. -/
theorem ownsN_rowS {w : World} {base : Nat} {E : TypeId} {v : Value} {A : Nat → BitVec 32} (h : ownsN w base E .u32 v (lst16 A)) :
    ∃ g cap sp, v = .slice (some ⟨g, 0, none⟩) 16 cap ∧ base ≤ g ∧ w.heap[g]? = some (.cells (rowS 16 A sp) E (0, 0)) ∧ cap ≤ maxLen ∧ 16 ≤ cap := by
  obtain ⟨hl, ⟨rfl, h0⟩ | ⟨g, cap, cur, rfl, hb, hh, hn, hc, hsz, hx⟩⟩ := h
  · rw [lst16_length] at h0; cases h0
  · rw [lst16_length] at hx hn ⊢
    refine ⟨g, cap, (cur.toList.drop 16).toArray, rfl, hb, ?_, hc, hn⟩
    have e : cur = rowS 16 A (cur.toList.drop 16).toArray := by
      apply Array.toList_inj.1
      unfold rowS
      rw [Array.toList_append]
      have e2 : (row32 16 A).toList = numsV .u32 (lst16 A) := rfl
      rw [e2, ← hx, Nat.mul_one, List.take_append_drop]
    rw [← e]; exact hh
theorem ownsN_of_rowS {w : World} {base g cap : Nat} {E : TypeId} {A : Nat → BitVec 32} {sp : Array Value} (h : w.heap[g]? = some (.cells (rowS 16 A sp) E (0, 0))) (hb : base ≤ g) (hc : cap ≤ maxLen) (h16 : 16 ≤ cap) (hs : (rowS 16 A sp).size = cap) :
    ownsN w base E .u32 (.slice (some ⟨g, 0, none⟩) 16 cap) (lst16 A) := by
  have hl : (lst16 A).length = 16 := lst16_length A
  refine ⟨by rw [numsV_length, Nat.mul_one], .inr ⟨g, cap, rowS 16 A sp, by rw [hl], hb, h, by rw [hl]; exact h16, hc, by rw [hs, Nat.mul_one], ?_⟩⟩
  have e2 : (row32 16 A).toList = numsV .u32 (lst16 A) := rfl
  unfold rowS
  rw [Array.toList_append, ← e2, hl]
  rw [List.take_left' (by simp [row32, row])]

theorem byte_of_shift (X : BitVec 32) (j : Nat) : val (X >>> (8 * j)) % 256 = ((byteAt X (8 * j)).toNat : Int) := by
  rw [byteAt_val, shr32]
theorem word_of_shift (X : BitVec 32) (j : Nat) : val (X >>> (8 * j)) / 256 = val (X >>> (8 * (j + 1))) := by
  rw [← shr32, ← shr32, Int.ediv_ediv_of_nonneg (Int.le_of_lt (Int.pow_pos (by decide))), show (256 : Int) = 2 ^ 8 from rfl, ← Int.pow_add]; rfl
theorem le4_take (X : BitVec 32) (j : Nat) (h : j < 4) (L : List UInt8) : L ++ (le4 X).take (j + 1) = L ++ (le4 X).take j ++ [byteAt X (8 * j)] := by
  rw [List.append_assoc]
  match j, h with
  | 0, _ => rfl
  | 1, _ => rfl
  | 2, _ => rfl
  | 3, _ => rfl
theorem string_of_byte (w : World) (b : UInt8) : (convert 101 9 (.slice (some ⟨w.heap.size, 0, none⟩) 1 1)).run Tryd.prog (w.alloc (.cells #[.int .u8 (b.toNat : Int)] 5)) = .ok (.string ⟨#[b]⟩) (w.alloc (.cells #[.int .u8 (b.toNat : Int)] 5)) :=
  string_of_own (ownsC_row (base := w.heap.size) (w := w.alloc (.cells (rowB [b] #[]) 5)) (g := w.heap.size) (cap := 1) (l := [b]) (sp := #[]) (t := 5) (fz := (0, 0)) (heap_alloc_at _ _) (Nat.le_refl _) (by simp [rowB, B8]) (by unfold maxLen; omega) (Or.inr rfl))
/-- A round of the reference's: columns, diagonals, in turn. -/
def half (k : Nat) (A : Nat → BitVec 32) (i : Nat) : Nat → BitVec 32 := if k % 2 = 1 then diags A i else cols A i
def halves (A : Nat → BitVec 32) : Nat → (Nat → BitVec 32)
  | 0 => A
  | k + 1 => half k (halves A k) 4
theorem halves_rounds (A : Nat → BitVec 32) (k : Nat) : halves A (2 * k) = rounds A k := by
  induction k with
  | zero => rfl
  | succ k ih =>
    show half (2 * k + 1) (half (2 * k) (halves A (2 * k)) 4) 4 = _
    rw [ih]
    unfold half
    rw [if_pos (by omega), if_neg (by omega)]
    rfl

set_option maxRecDepth 100000 in
set_option maxHeartbeats 1000000 in
theorem rblock_bad (key nonce : ByteArray) (n : Int) (w : World) (h : ¬ (key.size = 32 ∧ nonce.size = 12 ∧ 0 ≤ n ∧ n < 4294967296)) :
    Calls Tryd.prog 14 #[.string key, .int .i64 n, .string nonce] w fun r w' => r = .returned (.tuple #[.string ⟨#[]⟩, .int .i64 1]) ∧ ∃ x, w' = ext w x := by
  have H := Lib.hid h
  clear h
  by_cases hk : key.size = 32
  · by_cases hn : nonce.size = 12
    · have hb : ¬ ((0 : Int) ≤ n ∧ n ≤ 4294967295) := fun e => H.out ⟨hk, hn, e.1, by omega⟩
      have k1 : ((key.size : Int) != 32) = false := by rw [bne_eq_false_iff_eq]; omega
      have k2 : ((nonce.size : Int) != 12) = false := by rw [bne_eq_false_iff_eq]; omega
      have HB := Lib.hid hb
      clear hb hk hn
      go_enter Tryd.func14, Tryd.ntmps14
      go_wp2_with fail
      refine (in_no _ _ _ HB.out _).mono ?_
      rintro _ w' ⟨rfl, rfl⟩
      go_wp2_with fail
      go_ret2
      exact ⟨rfl, ext_refl _⟩
    · have k1 : ((key.size : Int) != 32) = false := by rw [bne_eq_false_iff_eq]; omega
      have k2 : ((nonce.size : Int) != 12) = true := by rw [bne_iff_ne]; omega
      clear hk hn
      go_enter Tryd.func14, Tryd.ntmps14
      go_wp2_with fail
      go_ret2
      exact ⟨rfl, ext_refl _⟩
  · have k1 : ((key.size : Int) != 32) = true := by rw [bne_iff_ne]; omega
    clear hk
    go_enter Tryd.func14, Tryd.ntmps14
    go_wp2_with fail
    go_ret2
    exact ⟨rfl, ext_refl _⟩

set_option maxRecDepth 100000 in
set_option maxHeartbeats 8000000 in
theorem rblock_any (key nonce : ByteArray) (n : Nat) (w : World) (hk : key.size = 32) (hn : nonce.size = 12) (hn' : n < 4294967296) :
    Calls Tryd.prog 14 #[.string key, .int .i64 (n : Nat), .string nonce] w fun r w' =>
      r = .returned (.tuple #[.string ⟨(block key.data.toList n nonce.data.toList).toArray⟩, .int .i64 0]) ∧ ∃ x, w' = ext w x := by
  have K1 := Lib.hid hk
  have K2 := Lib.hid hn
  have k1 : ((key.size : Int) != 32) = false := by rw [bne_eq_false_iff_eq]; omega
  have k2 : ((nonce.size : Int) != 12) = false := by rw [bne_eq_false_iff_eq]; omega
  have k3 : key.size ≤ 32 := by omega
  have hsz : ¬ 9223372036854775807 < 16 + key.size := by omega
  clear hk hn
  go_enter Tryd.func14, Tryd.ntmps14
  go_wp2_with fail
  refine (in_yes _ _ _ (by omega) (by omega) _).mono ?_
  rintro _ w0 ⟨rfl, rfl⟩
  go_wp2_with fail
  refine (words_any _ 12 _ (by rw [ByteArray.size_append, K1.out]; rfl) (by omega)).mono ?_
  rintro _ w1 ⟨v1, rfl, hO1, hx1⟩
  have HO1 : Hid (ownsN w1 w.heap.size 98 .u32 v1 (wordsL (exp16 ++ key.data.toList) 12)) := Lib.hid (by
    have e : ((⟨#[101, 120, 112, 97, 110, 100, 32, 51, 50, 45, 98, 121, 116, 101, 32, 107]⟩ : ByteArray) ++ key).data.toList = exp16 ++ key.data.toList := by rw [data_append]; rfl
    rw [← e]; exact hO1)
  have BB1 := Lib.hid (ext_iff.1 hx1)
  clear hO1 hx1 hsz
  have hnv : Hid ((n : Int) = ((BitVec.ofNat 32 n).toNat : Nat)) := Lib.hid (by rw [BitVec.toNat_ofNat, Nat.mod_eq_of_lt (by omega)])
  go_wp2_with (at_builtin; go_must (refine append_num 96 98 .u32 4 Tryd.underlying96 info32 (by decide) (BitVec.ofNat 32 n).toNat w.heap.size _ (wordsL (exp16 ++ key.data.toList) 12) (.tmp 32) (.tmp 35) _ rfl rfl rfl 1 rfl hnv.out HO1.out (by rw [wordsL_length]; omega) BB1.out.size ?_); intro v2 w2 hO2 hg2 hat2)
  have BB2 := Lib.hid (BB1.out.grown hg2 BB1.out.size (fun g e => ownsN_base HO1.out g e))
  have HO2 := Lib.hid hO2
  clear hO2 hg2 hat2 HO1 BB1 hnv
  refine (words_any nonce 3 _ (by rw [K2.out]) (by omega)).mono ?_
  rintro _ w3 ⟨v3, rfl, hO3, hx3⟩
  have HO2b := Lib.hid (ownsN_ext HO2.out hx3)
  have BB3 := Lib.hid (BB2.out.trans ((ext_iff.1 hx3).mono BB2.out.size))
  have HO3 := Lib.hid hO3
  rcases ownsN_form hO3 with ⟨_, h0⟩ | ⟨g3, cap3, rfl, -, -, -, -, -⟩
  · have := congrArg List.length h0; rw [wordsL_length] at this; cases this
  clear hO3 hx3 HO2 BB2
  go_wp2_with (first
    | (at_builtin; refine append_slice 96 98 .u32 4 Tryd.underlying96 info32 (by decide) w.heap.size _ (wordsL (exp16 ++ key.data.toList) 12 ++ [(BitVec.ofNat 32 n).toNat]) _ (wordsL nonce.data.toList 3) g3 cap3 (.tmp 36) (.tmp 38) rfl rfl rfl rfl HO2b.out HO3.out (by rw [List.length_append, wordsL_length, wordsL_length]; simp) BB3.out.size ?_; intro v4 w4 hO4 hg4 hat4
       rw [start_is] at hO4
       have BB4 := Lib.hid (BB3.out.grown hg4 BB3.out.size (fun g e => ownsN_base HO2b.out g e))
       obtain ⟨gs, caps, sps, rfl, hgs, hHS, hcs, hc16⟩ := ownsN_rowS hO4
       have HO4 := Lib.hid hO4
       have HS4 := Lib.hid hHS
       clear hO4 hg4 hat4 hHS HO2b HO3 BB3)
    | (at_builtin; refine append_slice 96 98 .u32 4 Tryd.underlying96 info32 (by decide) w4.heap.size (.slice (some ⟨w4.heap.size, 0, none⟩) 0 0) [] w.heap.size (lst16 (nonced key.data.toList n nonce.data.toList 3)) gs caps (.tmp 40) (.tmp 41) rfl rfl rfl rfl (ownsN_row (l := []) (heap_alloc_at _ _) (Nat.le_refl _) (by unfold maxLen; simp)) (ownsN_kept HO4.out (World.grownBy_alloc w4 _ none) (by rintro _ ⟨⟩)) (by rw [lst16_length]; simp) (by simp) ?_; intro v5 w5 hO5 hg5 hat5))
  have HS5 := Lib.hid ((hg5.block gs (by have := lt_of_heap HS4.out; simp; omega) (by have := lt_of_heap HS4.out; rw [show (Value.slice (some ⟨w4.heap.size, 0, none⟩) 0 0).ownBlock = some w4.heap.size from rfl]; simp only [ne_eq, Option.some.injEq]; omega)).trans ((heap_alloc_old _ _ (lt_of_heap HS4.out)).trans HS4.out))
  have BB5 := Lib.hid ((BB4.out.alloc BB4.out.size (.cells #[] 98)).grown hg5 (BB4.out.alloc BB4.out.size (.cells #[] 98)).size (by intro k; rw [show (Value.slice (some ⟨w4.heap.size, 0, none⟩) 0 0).ownBlock = some w4.heap.size from rfl]; simp only [Option.some.injEq]; have := BB4.out.size; omega))
  have hlt4 := lt_of_heap HS4.out
  have hbb4 := BB4.out.size
  rw [List.nil_append] at hO5
  obtain ⟨gt, capt, spt, rfl, hgt, hHT, hct, hct16⟩ := ownsN_rowS hO5
  have HT5 := Lib.hid hHT
  have hne : gs ≠ gt := by omega
  have hgtb : w.heap.size ≤ gt := by omega
  clear hO5 hg5 hat5 hHT HO4 HS4 BB4 hlt4 hbb4 hgt
  obtain ⟨S0, hS0⟩ : ∃ S0, S0 = nonced key.data.toList n nonce.data.toList 3 := ⟨_, rfl⟩
  rw [← hS0] at HS5 HT5
  have HS0 := Lib.hid hS0
  clear hS0
  obtain ⟨wq, rfl⟩ : ∃ wq, wq = w5 := ⟨w5, rfl⟩
  go_wp2_with fail
  go_loopw [43] (fun kv wr => ∃ k : Nat, k ≤ 20 ∧ kv = .int .i64 k ∧ Hid (wr.heap[gt]? = some (.cells (rowS 16 (halves S0 k) spt) 98 (0, 0))) ∧ Hid (wr.heap[gs]? = some (.cells (rowS 16 S0 sps) 98 (0, 0))) ∧ Hid (Below w.heap.size w wr)) (fun kv _ => 20 - (intOf kv).toNat)
  case atStart => exact ⟨0, by omega, rfl, HT5, HS5, BB5⟩
  case round =>
    clear HT5 HS5 BB5
    obtain ⟨k, hk, rfl, HT, HS, BB⟩ := hrel
    by_cases hk20 : k < 20
    · have hkb : decide ((k : Int) < 20) = true := decide_eq_true (by omega)
      go_wp2_with fail
      cases hodd : decide (k % 2 = 1) with
      | false =>
        have ho : ¬ k % 2 = 1 := of_decide_eq_false hodd
        have hob : ((k : Int) % 2 == 1) = false := by rw [beq_eq_false_iff_ne]; omega
        have HH : Hid (∀ i, half k (halves S0 k) i = cols (halves S0 k) i) := Lib.hid (fun i => by unfold half; rw [if_neg ho])
        have HS1 : Hid (halves S0 (k + 1) = cols (halves S0 k) 4) := Lib.hid (HH.out 4)
        generalize halves S0 k = X at HT HH HS1
        clear hodd ho HH
        go_loopw [46] (fun iv wr => ∃ i : Nat, i ≤ 4 ∧ iv = .int .i64 i ∧ Hid (wr.heap[gt]? = some (.cells (rowS 16 (cols X i) spt) 98 (0, 0))) ∧ Hid (wr.heap[gs]? = some (.cells (rowS 16 S0 sps) 98 (0, 0))) ∧ Hid (Below w.heap.size w wr)) (fun iv _ => 4 - (intOf iv).toNat)
        case atStart => exact ⟨0, by omega, rfl, HT, HS, BB⟩
        case round =>
          clear HT HS BB
          obtain ⟨i, hi, rfl, HT, HS, BB⟩ := hrel
          by_cases hi4 : i < 4
          · go_wp2_with fail
            refine (mix_any (cols X i) spt gt capt i (4 + i) (8 + i) (12 + i) 98 _ ((heap_alloc_old _ _ (lt_of_heap HT.out)).trans HT.out) (by omega) (by omega) (by omega) (by omega) _ _ _ _ (by omega) (by omega) (by omega) (by omega)).mono ?_
            rintro _ w6 ⟨rfl, hg6, hh6⟩
            have HT6 : Hid (w6.heap[gt]? = some (.cells (rowS 16 (cols X (i + 1)) spt) 98 (0, 0))) := Lib.hid hh6
            have HS6 := Lib.hid ((hg6.block gs (by have := lt_of_heap HS.out; simp; omega) (by intro e; injection e with e; exact hne e)).trans ((heap_alloc_old _ _ (lt_of_heap HS.out)).trans HS.out))
            have BB6 := Lib.hid ((BB.out.alloc BB.out.size _).grown hg6 (BB.out.alloc BB.out.size _).size (by rintro _ ⟨⟩; exact hgtb))
            clear hg6 hh6 HT HS BB
            go_wp2_with fail
            go_roundw
            case rel => exact ⟨i + 1, by omega, by go_num, HT6, HS6, BB6⟩
            case measure => simp [intOf]; omega
          · obtain rfl : i = 4 := by omega
            have HT7 : Hid (wr.heap[gt]? = some (.cells (rowS 16 (halves S0 (k + 1)) spt) 98 (0, 0))) := Lib.hid (by rw [HS1.out]; exact HT.out)
            rw [show ((4 : Nat) : Int) = 4 from rfl]
            clear HT
            go_wp2_with fail
            go_roundw
            case rel => exact ⟨k + 1, by omega, by go_num, HT7, HS, BB⟩
            case measure => simp [intOf]; omega
      | true =>
        have ho : k % 2 = 1 := of_decide_eq_true hodd
        have hob : ((k : Int) % 2 == 1) = true := by rw [beq_iff_eq]; omega
        have HH : Hid (∀ i, half k (halves S0 k) i = diags (halves S0 k) i) := Lib.hid (fun i => by unfold half; rw [if_pos ho])
        have HS1 : Hid (halves S0 (k + 1) = diags (halves S0 k) 4) := Lib.hid (HH.out 4)
        generalize halves S0 k = X at HT HH HS1
        clear hodd ho HH
        go_loopw [46] (fun iv wr => ∃ i : Nat, i ≤ 4 ∧ iv = .int .i64 i ∧ Hid (wr.heap[gt]? = some (.cells (rowS 16 (diags X i) spt) 98 (0, 0))) ∧ Hid (wr.heap[gs]? = some (.cells (rowS 16 S0 sps) 98 (0, 0))) ∧ Hid (Below w.heap.size w wr)) (fun iv _ => 4 - (intOf iv).toNat)
        case atStart => exact ⟨0, by omega, rfl, HT, HS, BB⟩
        case round =>
          clear HT HS BB
          obtain ⟨i, hi, rfl, HT, HS, BB⟩ := hrel
          by_cases hi4 : i < 4
          · go_wp2_with fail
            refine (mix_any (diags X i) spt gt capt i (4 + (i + 1) % 4) (8 + (i + 2) % 4) (12 + (i + 3) % 4) 98 _ ((heap_alloc_old _ _ (lt_of_heap HT.out)).trans HT.out) (by omega) (by omega) (by omega) (by omega) _ _ _ _ (by omega) (by omega) (by omega) (by omega)).mono ?_
            rintro _ w6 ⟨rfl, hg6, hh6⟩
            have HT6 : Hid (w6.heap[gt]? = some (.cells (rowS 16 (diags X (i + 1)) spt) 98 (0, 0))) := Lib.hid hh6
            have HS6 := Lib.hid ((hg6.block gs (by have := lt_of_heap HS.out; simp; omega) (by intro e; injection e with e; exact hne e)).trans ((heap_alloc_old _ _ (lt_of_heap HS.out)).trans HS.out))
            have BB6 := Lib.hid ((BB.out.alloc BB.out.size _).grown hg6 (BB.out.alloc BB.out.size _).size (by rintro _ ⟨⟩; exact hgtb))
            clear hg6 hh6 HT HS BB
            go_wp2_with fail
            go_roundw
            case rel => exact ⟨i + 1, by omega, by go_num, HT6, HS6, BB6⟩
            case measure => simp [intOf]; omega
          · obtain rfl : i = 4 := by omega
            have HT7 : Hid (wr.heap[gt]? = some (.cells (rowS 16 (halves S0 (k + 1)) spt) 98 (0, 0))) := Lib.hid (by rw [HS1.out]; exact HT.out)
            rw [show ((4 : Nat) : Int) = 4 from rfl]
            clear HT
            go_wp2_with fail
            go_roundw
            case rel => exact ⟨k + 1, by omega, by go_num, HT7, HS, BB⟩
            case measure => simp [intOf]; omega
    · obtain rfl : k = 20 := by omega
      clear hk hk20
      rw [show ((20 : Nat) : Int) = 20 from rfl]
      have HT1 : Hid (wr.heap[gt]? = some (.cells (rowS 16 (rounds S0 10) spt) 98 (0, 0))) := Lib.hid (by rw [← halves_rounds]; exact HT.out)
      clear HT
      have HF : Hid (block key.data.toList n nonce.data.toList = outB (rounds S0 10) S0 16) := Lib.hid (by unfold block; rw [HS0.out])
      generalize rounds S0 10 = T at HT1 HF
      go_wp2_with fail
      go_loopw [81, 13] (fun iv ov wr => ∃ q : Nat, q ≤ 16 ∧ iv = .int .i64 q ∧ ov = .string ⟨(outB T S0 q).toArray⟩ ∧ Hid (wr.heap[gt]? = some (.cells (rowS 16 T spt) 98 (0, 0))) ∧ Hid (wr.heap[gs]? = some (.cells (rowS 16 S0 sps) 98 (0, 0))) ∧ Hid (Below w.heap.size w wr)) (fun iv _ _ => 16 - (intOf iv).toNat)
      case atStart => exact ⟨0, by omega, rfl, rfl, HT1, HS, BB⟩
      case round =>
        clear HT1 HS BB
        obtain ⟨q, hq, rfl, rfl, HT, HS, BB⟩ := hrel
        by_cases hq16 : q < 16
        · have c1 := cell_of_rowS HT.out q hq16
          have c2 := cell_of_rowS HS.out q hq16
          have l1 := lt_of_heap HT.out
          have l2 := lt_of_heap HS.out
          have HO := Lib.hid (outB_succ T S0 q)
          have hol := outB_length T S0 q
          generalize outB T S0 q = L at HO hol ⊢
          have hx : Hid ((val (T q) + val (S0 q)) % 4294967296 = val (T q + S0 q)) := Lib.hid (add32 _ _)
          go_wp2_with fail
          refine wp_region_ext (by kernel_rfl) (by kernel_rfl) ?_
          repeat (go_big_quiet_step (fail))
          refine wpQuiet_nil ?_
          rintro _ ⟨x1, rfl⟩
          have HT2 := Lib.hid ((ext_heap (x := x1) l1).trans HT.out)
          have HS2 := Lib.hid ((ext_heap (x := x1) l2).trans HS.out)
          have BB2 := Lib.hid (BB.out.trans ((ext_below wr x1).mono BB.out.size))
          clear HT HS BB c1 c2 l1 l2
          generalize ext wr x1 = w7 at HT2 HS2 BB2 ⊢
          rw [hx.out]
          generalize T q + S0 q = X at HO
          clear hx
          go_wp2_with fail
          go_loopw [93, 15, 13] (fun jv xv ov wr => ∃ j : Nat, j ≤ 4 ∧ jv = .int .i64 j ∧ xv = .int .u32 (val (X >>> (8 * j))) ∧ ov = .string ⟨(L ++ (le4 X).take j).toArray⟩ ∧ Hid (wr.heap[gt]? = some (.cells (rowS 16 T spt) 98 (0, 0))) ∧ Hid (wr.heap[gs]? = some (.cells (rowS 16 S0 sps) 98 (0, 0))) ∧ Hid (Below w.heap.size w wr)) (fun jv _ _ _ => 4 - (intOf jv).toNat)
          case atStart => exact ⟨0, by omega, rfl, by rw [Nat.mul_zero, BitVec.ushiftRight_zero], by rw [List.take_zero, List.append_nil], HT2, HS2, BB2⟩
          case round =>
            clear HT2 HS2 BB2
            obtain ⟨j, hj, rfl, rfl, rfl, HT, HS, BB⟩ := hrel
            by_cases hj4 : j < 4
            · have hb := byte_of_shift X j
              have hq := word_of_shift X j
              have HTk := Lib.hid (le4_take X j hj4 L)
              have hlen : (L ++ (le4 X).take j).length ≤ 100 := by rw [List.length_append, hol, List.length_take]; omega
              have HHq := Lib.hid hq
              generalize hM : L ++ (le4 X).take j = M at HTk hlen ⊢
              clear hM hq
              generalize byteAt X (8 * j) = b at hb HTk
              have hconv := string_of_byte wr b
              have hnb : ¬ 9223372036854775807 < M.length + 1 := by omega
              have v0 := val_lt (X >>> (8 * j))
              have htm : (val (X >>> (8 * j))).tmod 256 % 256 = (b.toNat : Int) := by rw [Int.tmod_eq_emod_of_nonneg v0.1, hb]; have := b.toNat_lt; omega
              have hdv : (val (X >>> (8 * j))).tdiv 256 % 4294967296 = val (X >>> (8 * (j + 1))) := by rw [Int.tdiv_eq_ediv_of_nonneg v0.1, HHq.out]; have := val_lt (X >>> (8 * (j + 1))); omega
              clear v0
              go_wp2_with fail
              refine ⟨⟨j + 1, by omega, by go_num, by rw [hdv], ?_, Lib.hid ((heap_alloc_old _ _ (lt_of_heap HT.out)).trans HT.out), Lib.hid ((heap_alloc_old _ _ (lt_of_heap HS.out)).trans HS.out), Lib.hid (BB.out.alloc BB.out.size _)⟩, ?_⟩
              · rw [show (⟨#[b]⟩ : ByteArray) = ⟨[b].toArray⟩ from rfl, str_append, HTk.out]
              · simp [intOf]; omega
            · obtain rfl : j = 4 := by omega
              rw [show ((4 : Nat) : Int) = 4 from rfl]
              have hLs : Hid (L ++ (le4 X).take 4 = outB T S0 (q + 1)) := Lib.hid (by rw [HO.out]; rfl)
              rw [hLs.out]
              clear HO hol hLs
              go_wp2_with fail
              go_roundw
              case rel => exact ⟨q + 1, by omega, by go_num, rfl, HT, HS, BB⟩
              case measure => simp [intOf]; omega
        · obtain rfl : q = 16 := by omega
          rw [show ((16 : Nat) : Int) = 16 from rfl]
          go_wp2_with fail
          go_ret2
          exact ⟨by rw [HF.out]; rfl, ext_of BB.out⟩
end Go.Proofs.YtjjadgcpmfmlfaaDoor
