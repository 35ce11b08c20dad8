/- sum.Sum. · sum.Mark. · A region that draws its order, by an invariant over the operations that are done. No program. -/
import Derived.Test.YtnkmckdefiblhaaGreatDoorProg
import Derived.Test.YtnkmckdefiblhaaGreatDoorG6
import Derived.Test.YtnkmckdefiblhaaGreatDoorG8
import Derived.Test.YtnkmckdefiblhaaGreatDoorBase
namespace Go.Proofs.YtnkmckdefiblhaaGreatDoor
open Go.RowKit

def ivW : Nat → BitVec 32 := st8 1779033703#32 3144134277#32 1013904242#32 2773480762#32 1359893119#32 2600822924#32 528734635#32 1541459225#32
theorem iv_row : #[Value.int .u32 1779033703, .int .u32 3144134277, .int .u32 1013904242, .int .u32 2773480762, .int .u32 1359893119, .int .u32 2600822924, .int .u32 528734635, .int .u32 1541459225] = row32 8 ivW := rfl
/-- So many zeros are laid behind n bytes and one. -/
def zerosOf (n : Nat) : Nat := (119 - n % 64) % 64
theorem zerosOf_end (n : Nat) : (n + 1 + zerosOf n) % 64 = 56 := by unfold zerosOf; omega
theorem zerosOf_first (n k : Nat) (h : k < zerosOf n) : (n + 1 + k) % 64 ≠ 56 := by unfold zerosOf at h; omega
theorem zerosOf_lt (n : Nat) : zerosOf n < 64 := Nat.mod_lt _ (by decide)
def padZ (l : List UInt8) (k : Nat) : List UInt8 := l ++ [128] ++ List.replicate k 0
theorem padZ_succ (l : List UInt8) (k : Nat) : padZ l (k + 1) = padZ l k ++ [0] := by simp [padZ, List.replicate_succ']
theorem padZ_length (l : List UInt8) (k : Nat) : (padZ l k).length = l.length + 1 + k := by simp [padZ]; omega
def padded (l : List UInt8) : List UInt8 := padZ l (zerosOf l.length) ++ numB (8 * l.length)
theorem padded_length (l : List UInt8) : (padded l).length = 64 * ((l.length + 72) / 64) := by
  unfold padded numB
  rw [List.length_append, padZ_length, numTo_length]; unfold zerosOf; omega
def part64 (l : List UInt8) (k : Nat) : List UInt8 := (l.drop (64 * k)).take 64
def foldSha (l : List UInt8) : Nat → (Nat → BitVec 32)
  | 0 => ivW
  | k + 1 => shaBlock (foldSha l k) (part64 l k)
def be4 (x : BitVec 32) : List UInt8 := [byteAt x 24, byteAt x 16, byteAt x 8, byteAt x 0]
theorem be4_cells (x : BitVec 32) : #[Value.int .u8 (val x / 16777216 % 256), Value.int .u8 (val x / 65536 % 256), Value.int .u8 (val x / 256 % 256), Value.int .u8 (val x % 256)] = (B8 (be4 x)).toArray := by
  simp only [B8, be4, List.map_cons, List.map_nil, byteAt_val, Int.reducePow, Int.pow_zero, Int.ediv_one]
def wordsB (A : Nat → BitVec 32) (k : Nat) : List UInt8 := (List.range k).flatMap fun i => be4 (A i)
theorem wordsB_succ (A : Nat → BitVec 32) (k : Nat) : wordsB A (k + 1) = wordsB A k ++ be4 (A k) := by simp [wordsB, List.range_succ]
theorem wordsB_length (A : Nat → BitVec 32) (k : Nat) : (wordsB A k).length = 4 * k := by
  induction k with
  | zero => rfl
  | succ k ih => rw [wordsB_succ, List.length_append, ih]; simp [be4]; omega
/-- The sum of a text. -/
def sumB (l : List UInt8) : List UInt8 := wordsB (foldSha (padded l) ((l.length + 72) / 64)) 8
def lenV : Value → Nat
  | .slice _ n _ => n
  | _ => 0
theorem ownsC_lt {w : World} {base : Nat} {v : Value} {l : List UInt8} (h : ownsC w base v l) : ∀ g, v.ownBlock = some g → g < w.heap.size := by
  rcases h with ⟨rfl, _⟩ | ⟨g, cap, rfl, hb, hlt, _⟩
  · intro g hg; simp [Value.ownBlock] at hg
  · intro g' hg; simp only [Value.ownBlock, Option.some.injEq] at hg; omega
theorem ownsC_form {w : World} {base : Nat} {v : Value} {l : List UInt8} (h : ownsC w base v l) : ∃ p cap, v = .slice p l.length cap := by
  rcases h with ⟨rfl, rfl⟩ | ⟨g, cap, rfl, _⟩
  · exact ⟨_, _, rfl⟩
  · exact ⟨_, _, rfl⟩
theorem ownsC_form' {w : World} {base n : Nat} {v : Value} {l : List UInt8} (h : ownsC w base v l) (hn : l.length = n) : ∃ p cap, v = .slice p n cap := by
  subst hn; exact ownsC_form h

set_option maxRecDepth 100000 in
set_option maxHeartbeats 2000000 in
theorem sum_any (s : ByteArray) (w : World) (hs : s.size ≤ 140737488355000) (hR : Rounds w) :
    Calls Tryz.prog 26 #[.string s] w fun r w' => r = .returned (.string ⟨(sumB s.data.toList).toArray⟩) ∧ ∃ x, w' = ext w x := by
  have hl : s.data.toList.length = s.size := by rw [Array.length_toList]; rfl
  have R := Lib.hid hR
  have HL := Lib.hid hl
  clear hR hl
  obtain ⟨sp, hconv, hown⟩ := bytes_own (w.alloc (.cells (row32 8 ivW) 93)) s (by omega)
  have e1 : (w.alloc (.cells (row32 8 ivW) 93)).heap.size = w.heap.size + 1 := by simp
  have H0 := Lib.hid (heap_alloc_at w (.cells (row32 8 ivW) 93))
  have B0 := Lib.hid ((Below.refl w.heap.size w).alloc (Nat.le_refl _) (.cells (row32 8 ivW) 93))
  have E0 := Lib.hid e1
  rw [e1] at hown
  rw [← iv_row] at hconv hown H0 B0 E0
  have hown := Lib.hid hown
  clear e1
  go_enter Tryz.func26, Tryz.ntmps26
  go_wp2_with (at_builtin; go_loud (refine append_own [128] (w.heap.size + 1) _ s.data.toList (.tmp 14) (.tmp 15) _ rfl rfl rfl 1 1 _ rfl (by simp) rfl Nat.one_pos rfl hown.out (by rw [HL.out]; show s.size + 1 ≤ _; omega) (Nat.le_of_lt (ownsC_lt hown.out _ rfl)) ?_); intro v' w' hO hg _)
  have HS := Lib.hid (grown_heap (b := w.heap.size + 1) hg ((heap_alloc_old _ _ (by simp)).trans H0.out) (by omega))
  have BB := Lib.hid (((B0.out.drew).alloc B0.out.drew.size _).grown hg ((B0.out.drew).alloc B0.out.drew.size _).size (by rintro _ ⟨⟩; exact Nat.le_succ _))
  have HO : Hid (ownsC w' (w.heap.size + 1) v' (padZ s.data.toList 0)) := Lib.hid (by rw [padZ, List.replicate_zero, List.append_nil]; exact hO)
  rw [iv_row] at HS
  clear hO hg hown hconv H0 B0 E0
  go_loopw [4] (fun v wr => ∃ k : Nat, k ≤ zerosOf s.size ∧ Hid (ownsC wr (w.heap.size + 1) v (padZ s.data.toList k)) ∧ Hid (wr.heap[w.heap.size]? = some (.cells (row32 8 ivW) 93 (0, 0))) ∧ Hid (Below w.heap.size w wr)) (fun v _ => s.size + 1 + zerosOf s.size - lenV v)
  case atStart => exact ⟨0, Nat.zero_le _, HO, HS, BB⟩
  case round =>
    clear HO HS BB
    obtain ⟨k, hkz, HO, HS, BB⟩ := hrel
    have hlen : (padZ s.data.toList k).length = s.size + 1 + k := by rw [padZ_length, HL.out]
    obtain ⟨p, cap, rfl⟩ := ownsC_form' HO.out hlen
    have hz := zerosOf_lt s.size
    by_cases hlt : k < zerosOf s.size
    · have hne := zerosOf_first s.size k hlt
      go_wp2_with (at_builtin; refine append_own [0] (w.heap.size + 1) _ (padZ s.data.toList k) (.tmp 21) (.tmp 22) _ rfl rfl rfl 1 1 _ rfl (by simp) rfl Nat.one_pos rfl HO.out (by rw [hlen]; show s.size + 1 + k + 1 ≤ _; omega) (lt_of_heap HS.out) ?_; intro v' w' hO hg _)
      rw [← padZ_succ] at hO
      have hbase := ownsC_base HO.out
      have HS2 := Lib.hid ((hg.block _ (lt_of_heap HS.out) (fun e => by have := hbase _ e.symm; omega)).trans HS.out)
      have BB2 := Lib.hid (BB.out.grown hg BB.out.size (fun g e => by have := hbase g e; omega))
      have hlen' : (padZ s.data.toList (k + 1)).length = s.size + 1 + (k + 1) := by rw [padZ_length, HL.out]
      obtain ⟨p', cap', rfl⟩ := ownsC_form' hO hlen'
      have HO2 := Lib.hid hO
      clear hO hg HO HS BB hbase
      go_wp2_with fail
      go_roundw
      case rel => exact ⟨k + 1, by omega, HO2, HS2, BB2⟩
      case measure => simp [lenV]; omega
    · obtain rfl : k = zerosOf s.size := by omega
      have hend : ((s.size : Int) + 1 + (zerosOf s.size : Int)) % 64 = 56 := by have := zerosOf_end s.size; omega
      go_wp2_with fail
      have HOz := HO
      generalize hP : padZ s.data.toList (zerosOf s.size) = P at HO hlen
      have HP := Lib.hid hP
      clear hP hlt hkz HOz hend
      go_loopw [6, 4] (fun i v wr => ∃ k : Nat, k ≤ 8 ∧ i = .int .i64 (7 - k) ∧ Hid (ownsC wr (w.heap.size + 1) v (P ++ numTo (8 * s.size) k)) ∧ Hid (wr.heap[w.heap.size]? = some (.cells (row32 8 ivW) 93 (0, 0))) ∧ Hid (Below w.heap.size w wr)) (fun i _ _ => (intOf i + 1).toNat)
      case atStart => exact ⟨0, by omega, rfl, by simpa [numTo] using HO, HS, BB⟩
      case round =>
        clear HO HS BB
        obtain ⟨k, hk8, rfl, HO, HS, BB⟩ := hrel
        by_cases hlt : k < 8
        · have hge : (0 : Int) ≤ 7 - k := by omega
          have hv : Hid (#[Value.int .u8 ((s.size : Int) * 8 / 2 ^ (8 * (7 - k)) % 256)] = (B8 [byteOf (8 * s.size) (7 - k)]).toArray) := by
            apply Lib.hid; simp only [B8, List.map_cons, List.map_nil, byteOf_val]
            rw [Int.mul_comm (s.size : Int) 8, Int.emod_eq_of_lt (a := 8 * (s.size : Int)) (b := 18446744073709551616) (by omega) (by omega)]
          go_wp2_with (at_builtin; go_loud (refine append_own [byteOf (8 * s.size) (7 - k)] (w.heap.size + 1) _ (P ++ numTo (8 * s.size) k) (.tmp 32) (.tmp 38) _ rfl rfl rfl 1 1 _ rfl (by simp) rfl Nat.one_pos hv.out HO.out (by rw [List.length_append, hlen, numTo_length]; show s.size + 1 + zerosOf s.size + k + 1 ≤ _; omega) (lt_of_heap HS.out) ?_); intro v' w' hO hg _)
          rw [List.append_assoc, ← numTo_succ] at hO
          have hbase := ownsC_base HO.out
          have HS2 := Lib.hid ((hg.block _ (lt_of_heap HS.out) (fun e => by have := hbase _ e.symm; omega)).trans HS.out)
          have BB2 := Lib.hid (BB.out.grown hg BB.out.size (fun g e => by have := hbase g e; omega))
          have HO2 := Lib.hid hO
          clear hO hg HO HS BB hbase hv
          go_wp2_with fail
          go_roundw
          case rel => exact ⟨k + 1, by omega, by go_num, HO2, HS2, BB2⟩
          case measure => simp [intOf]; omega
        · obtain rfl : k = 8 := by omega
          rw [show (7 : Int) - ((8 : Nat) : Int) = -1 from rfl]
          have hpe : padded s.data.toList = P ++ numTo (8 * s.size) 8 := by unfold padded numB; rw [HL.out, HP.out]
          rw [← hpe] at HO
          have hL : (padded s.data.toList).length = 64 * ((s.size + 72) / 64) := by rw [padded_length, HL.out]
          clear hpe hlen hlt hk8
          generalize hM : (s.size + 72) / 64 = M at hL
          have hMs : 64 * M ≤ s.size + 72 := by omega
          have hM1 : 1 ≤ M := by omega
          have HM := Lib.hid hM
          clear hM
          have HF : Hid (wr.heap[w.heap.size]? = some (.cells (row32 8 (foldSha (padded s.data.toList) 0)) 93 (0, 0))) := HS
          clear HS
          generalize hD : padded s.data.toList = D at HO hL HF
          have HD := Lib.hid hD
          clear hD
          rcases HO.out with ⟨_, h0⟩ | ⟨g, cap, rfl, hgb, -, hcap, -⟩
          · have := congrArg List.length h0; rw [hL] at this; simp at this; omega
          rw [hL] at HO hcap ⊢
          go_wp2_with fail
          go_loopw [7] (fun i wr => ∃ k : Nat, k ≤ M ∧ i = .int .i64 (64 * k) ∧ Hid (ownsC wr (w.heap.size + 1) (.slice (some ⟨g, 0, none⟩) (64 * M) cap) D) ∧ Hid (wr.heap[w.heap.size]? = some (.cells (row32 8 (foldSha D k)) 93 (0, 0))) ∧ Hid (Below w.heap.size w wr)) (fun i _ => (64 * M - intOf i).toNat)
          case atStart => exact ⟨0, Nat.zero_le _, rfl, HO, HF, BB⟩
          case round =>
            clear HO HF BB
            obtain ⟨k, hkM, rfl, HO, HF, BB⟩ := hrel
            have RR := Rounds_of R.out (fun k hk => BB.out.block k hk) BB.out.size
            by_cases hlt : k < M
            · have i0 : (0 : Int) ≤ 64 * k := by omega
              have i1 : 64 * (k : Int) < 64 * M := by omega
              have i2 : 64 * (k : Int) + 64 ≤ 64 * M := by omega
              have i3 : 64 * (k : Int) + 64 ≤ cap := by omega
              have hconv := fun c => string_of_part (i := 64 * k) (n := 64) (c := c) HO.out (by rw [hL]; omega)
              go_wp2_with fail
              have hp64 : (part64 D k).length = 64 := by unfold part64; rw [List.length_take, List.length_drop, hL]; omega
              refine (shablock_any ⟨(part64 D k).toArray⟩ w.heap.size (foldSha D k) wr RR HF.out (by show (part64 D k).toArray.size = 64; rw [List.size_toArray, hp64])).mono ?_
              rintro _ w2 ⟨rfl, hg, hh⟩
              have HO2 := Lib.hid (ownsC_kept HO.out hg (fun j e => by injection e with e; simp only [Value.ownBlock]; intro e2; injection e2 with e2; omega))
              have BB2 := Lib.hid (BB.out.grown hg BB.out.size (by rintro _ ⟨⟩; exact Nat.le_refl _))
              have HF2 : Hid (w2.heap[w.heap.size]? = some (.cells (row32 8 (foldSha D (k + 1))) 93 (0, 0))) := Lib.hid hh
              clear hh hg HO BB HF RR hconv hp64
              go_wp2_with fail
              go_roundw
              case rel => exact ⟨k + 1, by omega, by go_num, HO2, HF2, BB2⟩
              case measure => simp [intOf]; omega
            · obtain rfl : k = M := by omega
              clear RR hlt
              go_wp2_with (refine wpList_load_row (o := ⟨some 53, _, _, _, _, _⟩) rfl 93 _ rfl w.heap.size rfl 93 _ (0, 0) _ HF.out Tryz.underlying93 rfl (by kernel_rfl) ?_)
              have hidx := fun (q : Nat) (hq : q < 8) (W : World) => run_index_row32 (P := Tryz.prog) (ty := 93) (A := foldSha D k) hq Tryz.underlying93 (fun _ => by kernel_rfl) (fun _ => by kernel_rfl) W
              generalize hE : foldSha D k = E at HF hidx ⊢
              have HE := Lib.hid hE
              have lw := lt_of_heap HF.out
              clear hE HO HF
              go_loopw [54, 8] (fun i v wr => ∃ q : Nat, q ≤ 8 ∧ i = .int .i64 q ∧ Hid (ownsC wr (w.heap.size + 1) v (wordsB E q)) ∧ Hid (w.heap.size < wr.heap.size) ∧ Hid (Below w.heap.size w wr)) (fun i _ _ => 8 - (intOf i).toNat)
              case atStart => exact ⟨0, by omega, rfl, Lib.hid (ownsC_nil _ _), Lib.hid lw, BB⟩
              case round =>
                clear BB lw
                obtain ⟨q, hq8, rfl, HO, HW, BB⟩ := hrel
                by_cases hlt : q < 8
                · have hi := hidx q hlt
                  clear hidx
                  go_wp2_with (at_builtin; go_loud (refine append_own (be4 (E q)) (w.heap.size + 1) _ (wordsB E q) (.tmp 57) (.tmp 69) _ rfl rfl rfl 4 4 _ rfl (by simp) rfl (Nat.succ_pos 3) (be4_cells _) HO.out (by rw [wordsB_length]; simp [be4]; omega) HW.out ?_); intro v' w' hO hg _)
                  rw [← wordsB_succ] at hO
                  have hbase := ownsC_base HO.out
                  have HW2 := Lib.hid (Nat.lt_of_lt_of_le HW.out hg.size)
                  have BB2 := Lib.hid (BB.out.grown hg BB.out.size (fun g e => by have := hbase g e; omega))
                  have HO2 := Lib.hid hO
                  clear hO hg HO HW BB hbase hi
                  go_wp2_with fail
                  go_roundw
                  case rel => exact ⟨q + 1, by omega, by go_num, HO2, HW2, BB2⟩
                  case measure => simp [intOf]; omega
                · obtain rfl : q = 8 := by omega
                  rw [show ((8 : Nat) : Int) = 8 from rfl]
                  have hconv := string_of_own HO.out
                  clear hidx
                  go_wp2_with fail
                  go_ret
                  have e : sumB s.data.toList = wordsB E 8 := by unfold sumB; rw [HL.out, HM.out, HD.out, HE.out]
                  exact ⟨by rw [e]; rfl, ext_of BB.out⟩
end Go.Proofs.YtnkmckdefiblhaaGreatDoor
namespace Go.Proofs.YtnkmckdefiblhaaGreatDoor
open Go.RowKit

/-- What a mark is the sum of: a kind, and texts with their lengths ahead of them. -/
def markTo (k : UInt8) (ps : List ByteArray) : Nat → List UInt8
  | 0 => [k]
  | q + 1 => markTo k ps q ++ (numB (ps.getD q ⟨#[]⟩).size ++ (ps.getD q ⟨#[]⟩).data.toList)
def markMsg (k : UInt8) (ps : List ByteArray) : List UInt8 := markTo k ps ps.length
def markB (k : UInt8) (ps : List ByteArray) : List UInt8 := (sumB (markMsg k ps)).take 16
theorem extract_front (l : List UInt8) (n : Nat) : (⟨l.toArray⟩ : ByteArray).extract 0 n = ⟨(l.take n).toArray⟩ := by
  have h := data_extract l 0 n
  rw [List.drop_zero, Nat.sub_zero] at h
  rw [← h]
theorem sumB_length (l : List UInt8) : (sumB l).length = 32 := by unfold sumB; rw [wordsB_length]
theorem markTo_le (k : UInt8) (ps : List ByteArray) (q r : Nat) (h : q ≤ r) : (markTo k ps q).length ≤ (markTo k ps r).length := by
  induction r with
  | zero => obtain rfl : q = 0 := by omega
            exact Nat.le_refl _
  | succ r ih =>
    by_cases e : q = r + 1
    · subst e; exact Nat.le_refl _
    · have := ih (by omega)
      simp only [markTo, List.length_append]; omega
theorem markTo_ge (k : UInt8) (ps : List ByteArray) (q : Nat) : 8 * q ≤ (markTo k ps q).length := by
  induction q with
  | zero => omega
  | succ q ih => simp only [markTo, List.length_append]; rw [show (numB ((ps.getD q ⟨#[]⟩).size : Nat)).length = 8 from numTo_length _ _]; omega
/-- A slice of texts. -/
def textsAt (w : World) (p : Option Addr) (ps : List ByteArray) : Prop := ∀ j s, ps[j]? = some s → ∃ g o, p = some ⟨g, o, none⟩ ∧ g < w.heap.size ∧ w.cell? ⟨g, o + j, none⟩ = some (.string s)
theorem textsAt_of {w w' : World} {p : Option Addr} {ps : List ByteArray} (h : textsAt w p ps) (hh : ∀ k, k < w.heap.size → w'.heap[k]? = w.heap[k]?) (hs : w.heap.size ≤ w'.heap.size) : textsAt w' p ps := by
  intro j s hj
  obtain ⟨g, o, rfl, hg, hc⟩ := h j s hj
  exact ⟨g, o, rfl, Nat.lt_of_lt_of_le hg hs, by rw [cell_in] at hc ⊢; rw [hh g hg]; exact hc⟩

set_option maxRecDepth 100000 in
set_option maxHeartbeats 1000000 in
theorem mark_any (k : UInt8) (vk : Int) (ek : vk = k.toNat) (p : Option Addr) (ps : List ByteArray) (vn : Nat) (en : vn = ps.length) (cap : Nat) (w : World) (hp : textsAt w p ps) (hlen : (markMsg k ps).length ≤ 140737488355000) (hR : Rounds w) :
    Calls Tryz.prog 13 #[.int .u8 vk, .slice p vn cap] w fun r w' => r = .returned (.string ⟨(markB k ps).toArray⟩) ∧ ∃ x, w' = ext w x := by
  subst ek en
  have R := Lib.hid hR
  have PP := Lib.hid hp
  clear hR hp
  have hconv : (convert 35 9 (.slice (some ⟨w.heap.size, 0, none⟩) 1 1)).run Tryz.prog (w.alloc (.cells #[.int .u8 (k.toNat : Int)] 5)) = .ok (.string ⟨#[k]⟩) (w.alloc (.cells #[.int .u8 (k.toNat : Int)] 5)) := string_of_own (ownsC_row (base := w.heap.size) (w := w.alloc (.cells (rowB [k] #[]) 5)) (g := w.heap.size) (cap := 1) (l := [k]) (sp := #[]) (t := 5) (fz := (0, 0)) (heap_alloc_at _ _) (Nat.le_refl _) (by simp [rowB, B8]) (by unfold maxLen; omega) (Or.inr rfl))
  go_enter Tryz.func13, Tryz.ntmps13
  go_wp2_with fail
  go_loopw [13, 5] (fun i v wr => ∃ q : Nat, q ≤ ps.length ∧ i = .int .i64 q ∧ v = .string ⟨(markTo k ps q).toArray⟩ ∧ Hid (Below w.heap.size w wr)) (fun i _ _ => ps.length - (intOf i).toNat)
  case atStart => exact ⟨0, Nat.zero_le _, rfl, rfl, Lib.hid ((Below.refl _ _).alloc (Nat.le_refl _) _)⟩
  case round =>
    obtain ⟨q, hq, rfl, rfl, BB⟩ := hrel
    by_cases hlt : q < ps.length
    · obtain ⟨g, o, rfl, hg, hc⟩ := textsAt_of PP.out (fun j hj => BB.out.block j hj) BB.out.size q ps[q] (List.getElem?_eq_getElem hlt)
      have hgd : ps.getD q ⟨#[]⟩ = ps[q] := by simp [List.getD_eq_getElem?_getD, List.getElem?_eq_getElem hlt]
      have hm := markTo_le k ps (q + 1) ps.length hlt
      have hsz : (markTo k ps (q + 1)).length = (markTo k ps q).length + (8 + ps[q].size) := by
        simp only [markTo, hgd, List.length_append]; rw [show (numB ((ps[q].size : Nat) : Int)).length = 8 from numTo_length _ _, Array.length_toList]; rfl
      go_wp2_with fail
      refine (num_any (ps[q].size : Nat) wr).mono ?_
      rintro _ w2 ⟨rfl, hx⟩
      have BB2 := Lib.hid (BB.out.grown (grown_below (ext_iff.1 hx) none) BB.out.size (by rintro _ ⟨⟩))
      have hn8 : (numB ((ps[q].size : Nat) : Int)).length = 8 := numTo_length _ _
      have hml : (markMsg k ps).length = (markTo k ps ps.length).length := rfl
      have hA : ¬ 9223372036854775807 < (numB ((ps[q].size : Nat) : Int)).length + ps[q].size := by omega
      have hB : ¬ 9223372036854775807 < (markTo k ps q).length + ((numB ((ps[q].size : Nat) : Int)).length + ps[q].size) := by omega
      have hqb : q < 100000000000000 := by have := markTo_ge k ps q; omega
      have hstr : (⟨(markTo k ps q).toArray⟩ : ByteArray) ++ (⟨(numB ((ps[q].size : Nat) : Int)).toArray⟩ ++ ps[q]) = ⟨(markTo k ps (q + 1)).toArray⟩ := by
        rw [← str_eta ps[q], str_append, str_append]; simp only [markTo, hgd]
      have hstr := Lib.hid hstr
      clear hx hc hn8 hml hsz hm hgd
      go_wp2_with fail
      go_roundw
      case rel => exact ⟨q + 1, by omega, by go_num, rfl, BB2⟩
      case measure => simp [intOf]; omega
    · obtain rfl : q = ps.length := by omega
      have R2 := Rounds_of R.out (fun j hj => BB.out.block j hj) BB.out.size
      go_wp2_with fail
      refine (sum_any ⟨(markTo k ps ps.length).toArray⟩ wr (by show (markTo k ps ps.length).toArray.size ≤ _; rw [List.size_toArray]; exact hlen) R2).mono ?_
      rintro _ w2 ⟨rfl, hx⟩
      have h32 : (sumB (markTo k ps ps.length)).length = 32 := sumB_length _
      have h16 : 16 ≤ (sumB (markTo k ps ps.length)).length := by omega
      go_wp2_with fail
      go_ret
      refine ⟨?_, ext_of (BB.out.grown (grown_below (ext_iff.1 hx) none) BB.out.size (by rintro _ ⟨⟩))⟩
      rw [extract_front]; rfl
end Go.Proofs.YtnkmckdefiblhaaGreatDoor
namespace Go.Proofs.YtnkmckdefiblhaaGreatDoor
open Go.RowKit

theorem count_set : ∀ (l : List Bool) (i : Nat), l[i]? = some false → (l.set i true).count false + 1 = l.count false
  | [], i, h => by simp at h
  | b :: l, 0, h => by
    simp only [List.getElem?_cons_zero, Option.some.injEq] at h
    subst h
    simp
  | b :: l, i + 1, h => by
    have ih := count_set l i (by simpa using h)
    simp only [List.set_cons_succ, List.count_cons]
    omega
section
variable {P : Program} {ops : Array Oper} {Q : Exit → Act → World → Prop}
/-- Whatever order: an invariant that each operation, once all that it waits for is done, keeps. -/
theorem wpAny_inv (I : Array Bool → Act → World → Prop) (hb : backB .any ops = true)
    (hstep : ∀ (listed : Array Bool) (a : Act) (w : World) (i : Nat) (o : Oper), listed.size = ops.size → I listed a w → ops[i]? = some o → listed[i]? = some false →
      (∀ e ∈ o.after, Region.binds .any e = true → listed[e.on]? = some true) → wpOp P ops Q i (I (listed.setIfInBounds i true)) a w)
    (hend : ∀ (listed : Array Bool) (a : Act) (w : World), listed.size = ops.size → (∀ i, i < ops.size → listed[i]? = some true) → I listed a w → Q .normal a w) :
    ∀ (fuel : Nat) (listed : Array Bool) (a : Act) (w : World), listed.size = ops.size → listed.toList.count false = fuel → I listed a w → wpAny P .any ops Q fuel listed a w
  | 0, listed, a, w, hs, hc, hI => by
    have hall : ∀ i, i < ops.size → listed[i]? = some true := by
      intro i hi
      have hlt : i < listed.size := by omega
      rw [Array.getElem?_eq_getElem hlt]
      cases hl : listed[i] with
      | true => rfl
      | false =>
        exfalso
        have : false ∈ listed.toList := by rw [← hl]; exact Array.getElem_mem_toList hlt
        have := List.count_pos_iff.2 this
        omega
    refine ⟨?_, hend listed a w hs hall hI⟩
    apply List.eq_nil_iff_forall_not_mem.2
    intro i hi
    rw [mem_ready] at hi
    obtain ⟨h1, o, h2, _⟩ := hi
    have hlt : i < ops.size := (Array.getElem?_eq_some_iff.1 h2).1
    have := hall i hlt
    simp [this] at h1
  | fuel + 1, listed, a, w, hs, hc, hI => by
    refine ⟨?_, ?_⟩
    · intro h0
      exfalso
      have hm : false ∈ listed.toList := List.count_pos_iff.1 (by omega)
      obtain ⟨i, hi, he⟩ := List.getElem_of_mem hm
      have hlt : i < listed.size := by simpa using hi
      have hg : listed.getD i true = false := by
        simp only [Array.getElem_toList] at he
        simp [hlt, he]
      exact ready_some (n := ops.size) hb (Nat.le_refl _) hs i (by omega) hg h0
    · intro i hi
      rw [mem_ready] at hi
      obtain ⟨h1, o, h2, h3⟩ := hi
      have hlt : i < ops.size := (Array.getElem?_eq_some_iff.1 h2).1
      have hli : listed[i]? = some false := by
        rw [Array.getElem?_eq_getElem (by omega)]
        simp [show i < listed.size by omega] at h1
        rw [h1]
      have hst := hstep listed a w i o hs hI h2 hli (fun e he hbi => by
        have hb' := backB_spec hb h2 he hbi
        have := h3 e he hbi
        rw [Array.getElem?_eq_getElem (by omega)]
        simp [show e.on < listed.size by omega] at this
        rw [this])
      have hcnt : (listed.setIfInBounds i true).toList.count false = fuel := by
        have hl2 : listed.toList[i]? = some false := by rw [Array.getElem?_toList]; exact hli
        have := count_set listed.toList i hl2
        rw [Array.toList_setIfInBounds]
        omega
      have ih := fun a' w' (h : I (listed.setIfInBounds i true) a' w') => wpAny_inv I hb hstep hend fuel (listed.setIfInBounds i true) a' w' (by simpa using hs) hcnt h
      unfold wpOp at hst ⊢
      simp only [h2] at hst ⊢
      split
      · rename_i hw
        rw [if_pos hw] at hst
        rcases hst with h | h
        · exact .inl (Oper.wp_mono ih h)
        · exact .inr h
      · rename_i hw
        rw [if_neg hw] at hst
        exact ih _ _ hst
theorem wp_region_inv {id : Nat} {a : Act} {w : World} {l : List Oper} (I : Array Bool → Act → World → Prop) (hm : P.follows .mixedOrders = true) (hb : backB .any l.toArray = true)
    (h0 : I (Array.replicate l.length false) a { w with drawn := w.drawn + 1 })
    (hstep : ∀ (listed : Array Bool) (a : Act) (w : World) (i : Nat) (o : Oper), listed.size = l.length → I listed a w → l[i]? = some o → listed[i]? = some false →
      (∀ e ∈ o.after, Region.binds .any e = true → listed[e.on]? = some true) → wpOp P l.toArray Q i (I (listed.setIfInBounds i true)) a w)
    (hend : ∀ (listed : Array Bool) (a : Act) (w : World), listed.size = l.length → (∀ i, i < l.length → listed[i]? = some true) → I listed a w → Q .normal a w) : (Code.region id l.toArray true).wp P Q a w := by
  refine wp_region_any hm ?_
  refine wpAny_inv I hb (fun listed a w i o hs hI ho => hstep listed a w i o (by simpa using hs) hI (by simpa using ho)) (fun listed a w hs hall => hend listed a w (by simpa using hs) (by simpa using hall)) _ _ _ _ (by simp) (by simp) (by simpa using h0)
end

/-! ### The same, slot by slot -/
/-- The slots, one laid anew. -/
def upd1 (g : Nat → Value) (d : Nat) (v : Value) : Nat → Value := fun k => if k = d then v else g k
theorem upd1_same (g : Nat → Value) (d : Nat) (v : Value) : upd1 g d v d = v := if_pos rfl
theorem cell_below {n : Nat} {w w' : World} {p : Addr} {v : Value} (hB : Below n w w') (hp : p.block < n) (h : w.cell? p = some v) : w'.cell? p = some v := by
  obtain ⟨b, o, s⟩ := p
  rw [cell_in] at h ⊢
  rw [hB.block b hp]; exact h
theorem upd1_other (g : Nat → Value) {d k : Nat} (v : Value) (h : k ≠ d) : upd1 g d v k = g k := if_neg h
section
variable {P : Program}
/-- Nothing but an ordinary end. -/
def Ends (K : Act → World → Prop) : Exit → Act → World → Prop := fun x a w => x = .normal ∧ K a w
theorem not_letsOut_ends {K : Act → World → Prop} : ¬ LetsOut (Ends K) := by rintro ⟨_, _, h, _⟩; cases h
theorem wpOp_of_ends {ops : Array Oper} {Q : Exit → Act → World → Prop} {K : Act → World → Prop} {i : Nat} {o : Oper} {a : Act} {w : World} (ho : ops[i]? = some o) (h : wpList P ops (Ends K) [o] a w) : wpOp P ops Q i K a w := by
  unfold wpOp
  simp only [ho]
  unfold wpList at h
  split
  · rename_i hw
    rw [if_pos hw] at h
    rcases h with h | ⟨_, h⟩
    · left
      unfold Oper.wp at h ⊢
      generalize (execOp a.eval o).run P w = r at *
      cases r with
      | ok n w' =>
        cases n <;> simp only [Oper.upon] at h ⊢ <;>
          first
            | exact h.2
            | exact Calls.mono h (fun e w'' he => by
                cases e with
                | returned v => exact he.2
                | panicked c => exact absurd he.1 (by simp)
                | outgrown => exact absurd he not_letsOut_ends)
            | exact Rows.mono h (fun _ _ he => he.2)
      | halt x w' => cases x <;> simp only [Oper.upon] at h ⊢ <;> first | exact h | exact absurd h.1 (by simp)
    · exact absurd h not_letsOut_ends
  · rename_i hw
    rw [if_neg hw] at h
    exact h.2
theorem wpList_ends {ops : Array Oper} {K K' : Act → World → Prop} {o : Oper} {a : Act} {w : World} (h : wpList P ops (Ends K) [o] a w) (hk : ∀ a w, K a w → K' a w) : wpList P ops (Ends K') [o] a w := by
  unfold wpList at h ⊢
  split
  · rename_i hw
    rw [if_pos hw] at h
    rcases h with h | ⟨_, h⟩
    · left
      unfold Oper.wp at h ⊢
      generalize (execOp a.eval o).run P w = r at *
      cases r with
      | ok n w' =>
        cases n <;> simp only [Oper.upon] at h ⊢ <;>
          first
            | exact ⟨rfl, hk _ _ h.2⟩
            | exact Calls.mono h (fun e w'' he => by
                cases e with
                | returned v => exact ⟨rfl, hk _ _ he.2⟩
                | panicked c => exact absurd he.1 (by simp)
                | outgrown => exact absurd he not_letsOut_ends)
            | exact Rows.mono h (fun _ _ he => ⟨rfl, hk _ _ he.2⟩)
      | halt x w' => cases x <;> simp only [Oper.upon] at h ⊢ <;> first | exact h | exact absurd h.1 (by simp)
    · exact absurd h not_letsOut_ends
  · rename_i hw
    rw [if_neg hw] at h
    exact ⟨rfl, hk _ _ h.2⟩
theorem ends_of {ops : Array Oper} {l : List Oper} {K : Act → World → Prop} {a : Act} {w : World} (h : ∀ Q : Exit → Act → World → Prop, Hid (∀ a' w', K a' w' → Q .normal a' w') → wpList P ops Q l a w) : wpList P ops (Ends K) l a w :=
  h _ (Lib.hid fun _ _ hk => ⟨rfl, hk⟩)
/-- One operation: from what it waits for, what it lays. -/
def Step (ops : Array Oper) (A : (Nat → Value) → Act) (d : Nat → Nat) (R : Nat → Value → World → Prop) (C : (Nat → Bool) → (Nat → Value) → World → Prop) (S : World → World → Prop) (i : Nat) (o : Oper) : Prop :=
  ∀ (L : Nat → Bool) (g : Nat → Value) (w : World), L i = false → (∀ e ∈ o.after, Region.binds .any e = true → L e.on = true) → (∀ j, L j = true → R j (g (d j)) w) → C L g w →
    wpList P ops (Ends fun a' w' => ∃ v, a' = A (upd1 g (d i) v) ∧ S w w' ∧ R i v w' ∧ C (fun k => if k = i then true else L k) (upd1 g (d i) v) w') [o] (A g) w
def Steps (ops : Array Oper) (A : (Nat → Value) → Act) (d : Nat → Nat) (R : Nat → Value → World → Prop) (C : (Nat → Bool) → (Nat → Value) → World → Prop) (S : World → World → Prop) : Nat → List Oper → Prop
  | _, [] => True
  | i, o :: l => Step (P := P) ops A d R C S i o ∧ Steps ops A d R C S (i + 1) l
theorem steps_at {ops : Array Oper} {A : (Nat → Value) → Act} {d : Nat → Nat} {R : Nat → Value → World → Prop} {C : (Nat → Bool) → (Nat → Value) → World → Prop} {S : World → World → Prop} :
    ∀ (l : List Oper) (k : Nat), Steps (P := P) ops A d R C S k l → ∀ i o, l[i]? = some o → Step (P := P) ops A d R C S (k + i) o
  | [], _, _, i, o, h => by simp at h
  | a :: l, k, hs, 0, o, h => by
    simp only [List.getElem?_cons_zero, Option.some.injEq] at h
    subst h
    exact hs.1
  | a :: l, k, hs, i + 1, o, h => by
    have := steps_at l (k + 1) hs.2 i o (by simpa using h)
    rwa [show k + 1 + i = k + (i + 1) by omega] at this
def onB (listed : Array Bool) (k : Nat) : Bool := listed[k]?.getD false
theorem wp_region_slots {id : Nat} {Q : Exit → Act → World → Prop} {a : Act} {w : World} {l : List Oper} (A : (Nat → Value) → Act) (d : Nat → Nat) (g0 : Nat → Value) (R : Nat → Value → World → Prop) (C : (Nat → Bool) → (Nat → Value) → World → Prop) (S : World → World → Prop)
    (hm : P.follows .mixedOrders = true) (hb : backB .any l.toArray = true) (ha : a = A g0) (hS : ∀ j v w w', S w w' → R j v w → R j v w') (hd : ((List.range l.length).all fun i => (List.range l.length).all fun j => i == j || d i != d j) = true)
    (hC : C (fun _ => false) g0 { w with drawn := w.drawn + 1 }) (hsteps : Steps (P := P) l.toArray A d R C S 0 l)
    (hend : ∀ (L : Nat → Bool) (g : Nat → Value) (w : World), (∀ j, j < l.length → L j = true) → (∀ j, j < l.length → R j (g (d j)) w) → C L g w → Q .normal (A g) w) : (Code.region id l.toArray true).wp P Q a w := by
  refine wp_region_inv (fun listed a w => listed.size = l.length ∧ ∃ g, a = A g ∧ (∀ j, onB listed j = true → R j (g (d j)) w) ∧ C (onB listed) g w) hm hb ⟨by simp, g0, ha, ?_, ?_⟩ ?_ ?_
  · intro j hj
    exfalso
    unfold onB at hj
    rw [Array.getElem?_replicate] at hj
    split at hj <;> simp at hj
  · have : onB (Array.replicate l.length false) = fun _ => false := by
      funext k
      unfold onB
      rw [Array.getElem?_replicate]
      split <;> rfl
    rw [this]; exact hC
  · rintro listed a w i o hsz ⟨_, g, rfl, hR, hC⟩ ho hli hdeps
    have hlt : i < l.length := (List.getElem?_eq_some_iff.1 ho).1
    refine wpOp_of_ends (o := o) (by simpa using ho) ?_
    have hst := steps_at l 0 hsteps i o ho
    rw [Nat.zero_add] at hst
    have hoff : onB listed i = false := by unfold onB; rw [hli]; rfl
    have h := hst (onB listed) g w hoff (fun e he hbi => by unfold onB; rw [hdeps e he hbi]; rfl) hR hC
    have hset : onB (listed.setIfInBounds i true) = fun k => if k = i then true else onB listed k := by
      funext k
      unfold onB
      by_cases hk : k = i
      · subst hk; simp [hsz, hlt]
      · simp [hk, Ne.symm hk]
    refine wpList_ends h ?_
    rintro a' w' ⟨v, rfl, hs, hr, hc⟩
    refine ⟨by simpa using hsz, upd1 g (d i) v, rfl, ?_, by rw [hset]; exact hc⟩
    intro j hj
    rw [hset] at hj
    by_cases hji : j = i
    · subst hji; rw [upd1_same]; exact hr
    · replace hj : onB listed j = true := by simpa [hji] using hj
      have hjl : j < l.length := by
        unfold onB at hj
        rcases Nat.lt_or_ge j listed.size with h' | h'
        · omega
        · rw [Array.getElem?_eq_none h'] at hj; simp at hj
      have hd' := List.all_eq_true.1 (List.all_eq_true.1 hd j (List.mem_range.2 hjl)) i (List.mem_range.2 hlt)
      simp only [Bool.or_eq_true, beq_iff_eq, bne_iff_ne, ne_eq, hji, false_or] at hd'
      rw [upd1_other _ _ hd']
      exact hS _ _ _ _ hs (hR j hj)
  · rintro listed a w hsz hall ⟨_, g, rfl, hR, hC⟩
    have hon : ∀ j, j < l.length → onB listed j = true := fun j hj => by unfold onB; rw [hall j hj]; rfl
    exact hend _ g w hon (fun j hj => hR j (hon j hj)) hC
end
end Go.Proofs.YtnkmckdefiblhaaGreatDoor
