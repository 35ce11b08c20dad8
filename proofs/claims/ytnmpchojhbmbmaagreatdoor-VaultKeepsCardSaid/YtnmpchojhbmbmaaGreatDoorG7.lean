/- sum.Sum. -/
import Derived.Test.YtnmpchojhbmbmaaGreatDoorProg
import Derived.Test.YtnmpchojhbmbmaaGreatDoorG4
import Derived.Test.YtnmpchojhbmbmaaGreatDoorG6
namespace Go.Proofs.YtnmpchojhbmbmaaGreatDoor
open Go.RowKit

def ivW : Nat → BitVec 32 := st8 1779033703#32 3144134277#32 1013904242#32 2773480762#32 1359893119#32 2600822924#32 528734635#32 1541459225#32
theorem iv_row : #[Value.int .u32 1779033703, .int .u32 3144134277, .int .u32 1013904242, .int .u32 2773480762, .int .u32 1359893119, .int .u32 2600822924, .int .u32 528734635, .int .u32 1541459225] = row32 8 ivW := rfl
/-- So many zeros are laid behind n bytes and one. -/
def zerosOf (n : Nat) : Nat := (119 - n % 64) % 64
theorem zerosOf_end (n : Nat) : (n + 1 + zerosOf n) % 64 = 56 := by unfold zerosOf; omega
theorem zerosOf_first (n k : Nat) (h : k < zerosOf n) : (n + 1 + k) % 64 ≠ 56 := by unfold zerosOf at h; omega
theorem zerosOf_lt (n : Nat) : zerosOf n < 64 := Nat.mod_lt _ (by decide)
def padZ (l : List UInt8) (k : Nat) : List UInt8 := l ++ [128] ++ List.replicate k 0
theorem padZ_succ (l : List UInt8) (k : Nat) : padZ l (k + 1) = padZ l k ++ [0] := by simp [padZ, List.replicate_succ']
theorem padZ_length (l : List UInt8) (k : Nat) : (padZ l k).length = l.length + 1 + k := by simp [padZ]; omega
def padded (l : List UInt8) : List UInt8 := padZ l (zerosOf l.length) ++ numB (8 * l.length)
theorem padded_length (l : List UInt8) : (padded l).length = 64 * ((l.length + 72) / 64) := by
  unfold padded numB
  rw [List.length_append, padZ_length, numTo_length]; unfold zerosOf; omega
def part64 (l : List UInt8) (k : Nat) : List UInt8 := (l.drop (64 * k)).take 64
def foldSha (l : List UInt8) : Nat → (Nat → BitVec 32)
  | 0 => ivW
  | k + 1 => shaBlock (foldSha l k) (part64 l k)
def be4 (x : BitVec 32) : List UInt8 := [byteAt x 24, byteAt x 16, byteAt x 8, byteAt x 0]
theorem be4_cells (x : BitVec 32) : #[Value.int .u8 (val x / 16777216 % 256), Value.int .u8 (val x / 65536 % 256), Value.int .u8 (val x / 256 % 256), Value.int .u8 (val x % 256)] = (B8 (be4 x)).toArray := by
  simp only [B8, be4, List.map_cons, List.map_nil, byteAt_val, Int.reducePow, Int.pow_zero, Int.ediv_one]
def wordsB (A : Nat → BitVec 32) (k : Nat) : List UInt8 := (List.range k).flatMap fun i => be4 (A i)
theorem wordsB_succ (A : Nat → BitVec 32) (k : Nat) : wordsB A (k + 1) = wordsB A k ++ be4 (A k) := by simp [wordsB, List.range_succ]
theorem wordsB_length (A : Nat → BitVec 32) (k : Nat) : (wordsB A k).length = 4 * k := by
  induction k with
  | zero => rfl
  | succ k ih => rw [wordsB_succ, List.length_append, ih]; simp [be4]; omega
/-- The sum of a text. -/
def sumB (l : List UInt8) : List UInt8 := wordsB (foldSha (padded l) ((l.length + 72) / 64)) 8
def lenV : Value → Nat
  | .slice _ n _ => n
  | _ => 0
theorem ownsC_lt {w : World} {base : Nat} {v : Value} {l : List UInt8} (h : ownsC w base v l) : ∀ g, v.ownBlock = some g → g < w.heap.size := by
  rcases h with ⟨rfl, _⟩ | ⟨g, cap, rfl, hb, hlt, _⟩
  · intro g hg; simp [Value.ownBlock] at hg
  · intro g' hg; simp only [Value.ownBlock, Option.some.injEq] at hg; omega
theorem ownsC_form {w : World} {base : Nat} {v : Value} {l : List UInt8} (h : ownsC w base v l) : ∃ p cap, v = .slice p l.length cap := by
  rcases h with ⟨rfl, rfl⟩ | ⟨g, cap, rfl, _⟩
  · exact ⟨_, _, rfl⟩
  · exact ⟨_, _, rfl⟩
theorem ownsC_form' {w : World} {base n : Nat} {v : Value} {l : List UInt8} (h : ownsC w base v l) (hn : l.length = n) : ∃ p cap, v = .slice p n cap := by
  subst hn; exact ownsC_form h

set_option maxRecDepth 100000 in
set_option maxHeartbeats 2000000 in
theorem sum_any (s : ByteArray) (w : World) (hs : s.size ≤ 140737488355000) (hR : Rounds w) :
    Calls Tryz.prog 24 #[.string s] w fun r w' => r = .returned (.string ⟨(sumB s.data.toList).toArray⟩) ∧ ∃ x, w' = ext w x := by
  have hl : s.data.toList.length = s.size := by rw [Array.length_toList]; rfl
  have R := Lib.hid hR
  have HL := Lib.hid hl
  clear hR hl
  obtain ⟨sp, hconv, hown⟩ := bytes_own (w.alloc (.cells (row32 8 ivW) 53)) s (by omega)
  have e1 : (w.alloc (.cells (row32 8 ivW) 53)).heap.size = w.heap.size + 1 := by simp
  have H0 := Lib.hid (heap_alloc_at w (.cells (row32 8 ivW) 53))
  have B0 := Lib.hid ((Below.refl w.heap.size w).alloc (Nat.le_refl _) (.cells (row32 8 ivW) 53))
  have E0 := Lib.hid e1
  rw [e1] at hown
  rw [← iv_row] at hconv hown H0 B0 E0
  have hown := Lib.hid hown
  clear e1
  go_enter Tryz.func24, Tryz.ntmps24
  go_wp2_with (at_builtin; go_loud (refine append_own [128] (w.heap.size + 1) _ s.data.toList (.tmp 14) (.tmp 15) _ rfl rfl rfl 1 1 _ rfl (by simp) rfl Nat.one_pos rfl hown.out (by rw [HL.out]; show s.size + 1 ≤ _; omega) (Nat.le_of_lt (ownsC_lt hown.out _ rfl)) ?_); intro v' w' hO hg _)
  have HS := Lib.hid (grown_heap (b := w.heap.size + 1) hg ((heap_alloc_old _ _ (by simp)).trans H0.out) (by omega))
  have BB := Lib.hid (((B0.out.drew).alloc B0.out.drew.size _).grown hg ((B0.out.drew).alloc B0.out.drew.size _).size (by rintro _ ⟨⟩; exact Nat.le_succ _))
  have HO : Hid (ownsC w' (w.heap.size + 1) v' (padZ s.data.toList 0)) := Lib.hid (by rw [padZ, List.replicate_zero, List.append_nil]; exact hO)
  rw [iv_row] at HS
  clear hO hg hown hconv H0 B0 E0
  go_loopw [4] (fun v wr => ∃ k : Nat, k ≤ zerosOf s.size ∧ Hid (ownsC wr (w.heap.size + 1) v (padZ s.data.toList k)) ∧ Hid (wr.heap[w.heap.size]? = some (.cells (row32 8 ivW) 53 (0, 0))) ∧ Hid (Below w.heap.size w wr)) (fun v _ => s.size + 1 + zerosOf s.size - lenV v)
  case atStart => exact ⟨0, Nat.zero_le _, HO, HS, BB⟩
  case round =>
    clear HO HS BB
    obtain ⟨k, hkz, HO, HS, BB⟩ := hrel
    have hlen : (padZ s.data.toList k).length = s.size + 1 + k := by rw [padZ_length, HL.out]
    obtain ⟨p, cap, rfl⟩ := ownsC_form' HO.out hlen
    have hz := zerosOf_lt s.size
    by_cases hlt : k < zerosOf s.size
    · have hne := zerosOf_first s.size k hlt
      go_wp2_with (at_builtin; refine append_own [0] (w.heap.size + 1) _ (padZ s.data.toList k) (.tmp 21) (.tmp 22) _ rfl rfl rfl 1 1 _ rfl (by simp) rfl Nat.one_pos rfl HO.out (by rw [hlen]; show s.size + 1 + k + 1 ≤ _; omega) (lt_of_heap HS.out) ?_; intro v' w' hO hg _)
      rw [← padZ_succ] at hO
      have hbase := ownsC_base HO.out
      have HS2 := Lib.hid ((hg.block _ (lt_of_heap HS.out) (fun e => by have := hbase _ e.symm; omega)).trans HS.out)
      have BB2 := Lib.hid (BB.out.grown hg BB.out.size (fun g e => by have := hbase g e; omega))
      have hlen' : (padZ s.data.toList (k + 1)).length = s.size + 1 + (k + 1) := by rw [padZ_length, HL.out]
      obtain ⟨p', cap', rfl⟩ := ownsC_form' hO hlen'
      have HO2 := Lib.hid hO
      clear hO hg HO HS BB hbase
      go_wp2_with fail
      go_roundw
      case rel => exact ⟨k + 1, by omega, HO2, HS2, BB2⟩
      case measure => simp [lenV]; omega
    · obtain rfl : k = zerosOf s.size := by omega
      have hend : ((s.size : Int) + 1 + (zerosOf s.size : Int)) % 64 = 56 := by have := zerosOf_end s.size; omega
      go_wp2_with fail
      have HOz := HO
      generalize hP : padZ s.data.toList (zerosOf s.size) = P at HO hlen
      have HP := Lib.hid hP
      clear hP hlt hkz HOz hend
      go_loopw [6, 4] (fun i v wr => ∃ k : Nat, k ≤ 8 ∧ i = .int .i64 (7 - k) ∧ Hid (ownsC wr (w.heap.size + 1) v (P ++ numTo (8 * s.size) k)) ∧ Hid (wr.heap[w.heap.size]? = some (.cells (row32 8 ivW) 53 (0, 0))) ∧ Hid (Below w.heap.size w wr)) (fun i _ _ => (intOf i + 1).toNat)
      case atStart => exact ⟨0, by omega, rfl, by simpa [numTo] using HO, HS, BB⟩
      case round =>
        clear HO HS BB
        obtain ⟨k, hk8, rfl, HO, HS, BB⟩ := hrel
        by_cases hlt : k < 8
        · have hge : (0 : Int) ≤ 7 - k := by omega
          have hv : Hid (#[Value.int .u8 ((s.size : Int) * 8 / 2 ^ (8 * (7 - k)) % 256)] = (B8 [byteOf (8 * s.size) (7 - k)]).toArray) := by
            apply Lib.hid; simp only [B8, List.map_cons, List.map_nil, byteOf_val]
            rw [Int.mul_comm (s.size : Int) 8, Int.emod_eq_of_lt (a := 8 * (s.size : Int)) (b := 18446744073709551616) (by omega) (by omega)]
          go_wp2_with (at_builtin; go_loud (refine append_own [byteOf (8 * s.size) (7 - k)] (w.heap.size + 1) _ (P ++ numTo (8 * s.size) k) (.tmp 32) (.tmp 38) _ rfl rfl rfl 1 1 _ rfl (by simp) rfl Nat.one_pos hv.out HO.out (by rw [List.length_append, hlen, numTo_length]; show s.size + 1 + zerosOf s.size + k + 1 ≤ _; omega) (lt_of_heap HS.out) ?_); intro v' w' hO hg _)
          rw [List.append_assoc, ← numTo_succ] at hO
          have hbase := ownsC_base HO.out
          have HS2 := Lib.hid ((hg.block _ (lt_of_heap HS.out) (fun e => by have := hbase _ e.symm; omega)).trans HS.out)
          have BB2 := Lib.hid (BB.out.grown hg BB.out.size (fun g e => by have := hbase g e; omega))
          have HO2 := Lib.hid hO
          clear hO hg HO HS BB hbase hv
          go_wp2_with fail
          go_roundw
          case rel => exact ⟨k + 1, by omega, by go_num, HO2, HS2, BB2⟩
          case measure => simp [intOf]; omega
        · obtain rfl : k = 8 := by omega
          rw [show (7 : Int) - ((8 : Nat) : Int) = -1 from rfl]
          have hpe : padded s.data.toList = P ++ numTo (8 * s.size) 8 := by unfold padded numB; rw [HL.out, HP.out]
          rw [← hpe] at HO
          have hL : (padded s.data.toList).length = 64 * ((s.size + 72) / 64) := by rw [padded_length, HL.out]
          clear hpe hlen hlt hk8
          generalize hM : (s.size + 72) / 64 = M at hL
          have hMs : 64 * M ≤ s.size + 72 := by omega
          have hM1 : 1 ≤ M := by omega
          have HM := Lib.hid hM
          clear hM
          have HF : Hid (wr.heap[w.heap.size]? = some (.cells (row32 8 (foldSha (padded s.data.toList) 0)) 53 (0, 0))) := HS
          clear HS
          generalize hD : padded s.data.toList = D at HO hL HF
          have HD := Lib.hid hD
          clear hD
          rcases HO.out with ⟨_, h0⟩ | ⟨g, cap, rfl, hgb, -, hcap, -⟩
          · have := congrArg List.length h0; rw [hL] at this; simp at this; omega
          rw [hL] at HO hcap ⊢
          go_wp2_with fail
          go_loopw [7] (fun i wr => ∃ k : Nat, k ≤ M ∧ i = .int .i64 (64 * k) ∧ Hid (ownsC wr (w.heap.size + 1) (.slice (some ⟨g, 0, none⟩) (64 * M) cap) D) ∧ Hid (wr.heap[w.heap.size]? = some (.cells (row32 8 (foldSha D k)) 53 (0, 0))) ∧ Hid (Below w.heap.size w wr)) (fun i _ => (64 * M - intOf i).toNat)
          case atStart => exact ⟨0, Nat.zero_le _, rfl, HO, HF, BB⟩
          case round =>
            clear HO HF BB
            obtain ⟨k, hkM, rfl, HO, HF, BB⟩ := hrel
            have RR := Rounds_of R.out (fun k hk => BB.out.block k hk) BB.out.size
            by_cases hlt : k < M
            · have i0 : (0 : Int) ≤ 64 * k := by omega
              have i1 : 64 * (k : Int) < 64 * M := by omega
              have i2 : 64 * (k : Int) + 64 ≤ 64 * M := by omega
              have i3 : 64 * (k : Int) + 64 ≤ cap := by omega
              have hconv := fun c => string_of_part (i := 64 * k) (n := 64) (c := c) HO.out (by rw [hL]; omega)
              go_wp2_with fail
              have hp64 : (part64 D k).length = 64 := by unfold part64; rw [List.length_take, List.length_drop, hL]; omega
              refine (shablock_any ⟨(part64 D k).toArray⟩ w.heap.size (foldSha D k) wr RR HF.out (by show (part64 D k).toArray.size = 64; rw [List.size_toArray, hp64])).mono ?_
              rintro _ w2 ⟨rfl, hg, hh⟩
              have HO2 := Lib.hid (ownsC_kept HO.out hg (fun j e => by injection e with e; simp only [Value.ownBlock]; intro e2; injection e2 with e2; omega))
              have BB2 := Lib.hid (BB.out.grown hg BB.out.size (by rintro _ ⟨⟩; exact Nat.le_refl _))
              have HF2 : Hid (w2.heap[w.heap.size]? = some (.cells (row32 8 (foldSha D (k + 1))) 53 (0, 0))) := Lib.hid hh
              clear hh hg HO BB HF RR hconv hp64
              go_wp2_with fail
              go_roundw
              case rel => exact ⟨k + 1, by omega, by go_num, HO2, HF2, BB2⟩
              case measure => simp [intOf]; omega
            · obtain rfl : k = M := by omega
              clear RR hlt
              go_wp2_with (refine wpList_load_row (o := ⟨some 53, _, _, _, _, _⟩) rfl 53 _ rfl w.heap.size rfl 53 _ (0, 0) _ HF.out Tryz.underlying53 rfl (by kernel_rfl) ?_)
              have hidx := fun (q : Nat) (hq : q < 8) (W : World) => run_index_row32 (P := Tryz.prog) (ty := 53) (A := foldSha D k) hq Tryz.underlying53 (fun _ => by kernel_rfl) (fun _ => by kernel_rfl) W
              generalize hE : foldSha D k = E at HF hidx ⊢
              have HE := Lib.hid hE
              have lw := lt_of_heap HF.out
              clear hE HO HF
              go_loopw [54, 8] (fun i v wr => ∃ q : Nat, q ≤ 8 ∧ i = .int .i64 q ∧ Hid (ownsC wr (w.heap.size + 1) v (wordsB E q)) ∧ Hid (w.heap.size < wr.heap.size) ∧ Hid (Below w.heap.size w wr)) (fun i _ _ => 8 - (intOf i).toNat)
              case atStart => exact ⟨0, by omega, rfl, Lib.hid (ownsC_nil _ _), Lib.hid lw, BB⟩
              case round =>
                clear BB lw
                obtain ⟨q, hq8, rfl, HO, HW, BB⟩ := hrel
                by_cases hlt : q < 8
                · have hi := hidx q hlt
                  clear hidx
                  go_wp2_with (at_builtin; go_loud (refine append_own (be4 (E q)) (w.heap.size + 1) _ (wordsB E q) (.tmp 57) (.tmp 69) _ rfl rfl rfl 4 4 _ rfl (by simp) rfl (Nat.succ_pos 3) (be4_cells _) HO.out (by rw [wordsB_length]; simp [be4]; omega) HW.out ?_); intro v' w' hO hg _)
                  rw [← wordsB_succ] at hO
                  have hbase := ownsC_base HO.out
                  have HW2 := Lib.hid (Nat.lt_of_lt_of_le HW.out hg.size)
                  have BB2 := Lib.hid (BB.out.grown hg BB.out.size (fun g e => by have := hbase g e; omega))
                  have HO2 := Lib.hid hO
                  clear hO hg HO HW BB hbase hi
                  go_wp2_with fail
                  go_roundw
                  case rel => exact ⟨q + 1, by omega, by go_num, HO2, HW2, BB2⟩
                  case measure => simp [intOf]; omega
                · obtain rfl : q = 8 := by omega
                  rw [show ((8 : Nat) : Int) = 8 from rfl]
                  have hconv := string_of_own HO.out
                  clear hidx
                  go_wp2_with fail
                  go_ret
                  have e : sumB s.data.toList = wordsB E 8 := by unfold sumB; rw [HL.out, HM.out, HD.out, HE.out]
                  exact ⟨by rw [e]; rfl, ext_of BB.out⟩
end Go.Proofs.YtnmpchojhbmbmaaGreatDoor
