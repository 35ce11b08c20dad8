/- oublietteref.R.Sum (the walk). -/
import Derived.Test.YtnmpchojhbmbmaaGreatDoorProg
import Derived.Test.YtnmpchojhbmbmaaGreatDoorG14
import Derived.Test.YtnmpchojhbmbmaaGreatDoorG11
import Derived.Deep.MidRow
namespace Go.Proofs.YtnmpchojhbmbmaaGreatDoor
open Go.RowKit

theorem refR_h (j : Nat) (h : j < 8) : refR j = ivW j := by unfold refR newTo; rw [if_pos h, if_pos (by omega)]
theorem refR_k (j : Nat) (h : j < 64) : refR (8 + j) = K256 j := by unfold refR newTo; rw [if_neg (by omega), if_pos (by omega), show 8 + j - 8 = j by omega]
theorem range_R {w : World} {b : Nat} (h : isR w b) : w.rangeAt b 0 (row32 8 ivW).toList := by
  intro j v hj
  rw [Array.getElem?_toList] at hj
  unfold row32 at hj
  rw [row_get] at hj
  split at hj
  · rename_i h8
    rw [Nat.zero_add, cell_of_row32 h j (by omega), refR_h j h8]; exact hj
  · cases hj
theorem isR_of {w w' : World} {b : Nat} (h : isR w b) (hh : ∀ k, k < w.heap.size → w'.heap[k]? = w.heap[k]?) : isR w' b := (hh b (lt_of_heap h)).trans h
theorem isR_ext {w w' : World} {b : Nat} (h : isR w b) (hx : ∃ x, w' = ext w x) : isR w' b := isR_of h fun _ hk => (ext_iff.1 hx).block _ hk
theorem isR_alloc {w : World} {b : Nat} (h : isR w b) (o : Obj) : isR (w.alloc o) b := isR_of h fun _ hk => heap_alloc_old _ _ hk

/-- The words, as they are laid one behind the other. -/
def wAt (l : List UInt8) (t : Nat) : Nat → BitVec 32 := if t ≤ 16 then wordsTo l t else sched (wordsTo l 16) (t - 16)
theorem wAt_low (l : List UInt8) (t : Nat) (h : t ≤ 16) : wAt l t = wordsTo l t := if_pos h
theorem wAt_high (l : List UInt8) (t : Nat) (h : 16 ≤ t) : wAt l t = sched (wordsTo l 16) (t - 16) := by
  unfold wAt
  by_cases e : t ≤ 16
  · obtain rfl : t = 16 := by omega
    rw [if_pos e]; rfl
  · rw [if_neg e]
theorem upd_id {α : Type} (F : Nat → α) (i : Nat) (v : α) (h : F i = v) : upd F i v = F := by
  funext j; unfold upd; split
  · rename_i e; rw [e, h]
  · rfl
theorem upd_upd {α : Type} (F : Nat → α) (i : Nat) (v u : α) : upd (upd F i v) i u = upd F i u := by
  funext j; unfold upd; split <;> rfl
theorem part_get (D : List UInt8) (k i : Nat) (h : i < 64) : (part64 D k).getD i 0 = D.getD (64 * k + i) 0 := by
  unfold part64
  simp only [List.getD_eq_getElem?_getD]
  rw [List.getElem?_take_of_lt h, List.getElem?_drop]

theorem row8' (V : Nat → BitVec 32) : row32 8 V = #[.int .u32 (val (V 0)), .int .u32 (val (V 1)), .int .u32 (val (V 2)), .int .u32 (val (V 3)), .int .u32 (val (V 4)), .int .u32 (val (V 5)), .int .u32 (val (V 6)), .int .u32 (val (V 7))] := rfl
theorem string_of_be4 (w : World) (x : BitVec 32) : (convert 92 9 (.slice (some ⟨w.heap.size, 0, none⟩) 4 4)).run Tryz.prog (w.alloc (.cells #[.int .u8 (val x / 16777216 % 256), .int .u8 (val x / 65536 % 256), .int .u8 (val x / 256 % 256), .int .u8 (val x % 256)] 5)) =
    .ok (.string ⟨(be4 x).toArray⟩) (w.alloc (.cells #[.int .u8 (val x / 16777216 % 256), .int .u8 (val x / 65536 % 256), .int .u8 (val x / 256 % 256), .int .u8 (val x % 256)] 5)) := by
  rw [be4_cells]
  exact string_of_own (ownsC_row (base := w.heap.size) (w := w.alloc (.cells (rowB (be4 x) #[]) 5)) (g := w.heap.size) (cap := 4) (l := be4 x) (sp := #[]) (t := 5) (fz := (0, 0)) (heap_alloc_at _ _) (Nat.le_refl _) (by simp [rowB, B8, be4]) (by unfold maxLen; omega) (Or.inr rfl))

set_option maxRecDepth 100000 in
set_option maxHeartbeats 8000000 in
theorem rsum_any (s : ByteArray) (b : Nat) (w : World) (hs : s.size ≤ 140737488355000) (hR : isR w b) :
    Calls Tryz.prog 35 #[.pointer (some ⟨b, 0, none⟩), .string s] w fun r w' => r = .returned (.string ⟨(sumB s.data.toList).toArray⟩) ∧ ∃ x, w' = ext w x := by
  have hl : s.data.toList.length = s.size := by rw [Array.length_toList]; rfl
  have R := Lib.hid hR
  have HL := Lib.hid hl
  have RG := range_R hR
  clear hR hl
  obtain ⟨sp, hconv, hown⟩ := bytes_own (w.alloc (.cells (row32 8 ivW) 53)) s (by omega)
  have e1 : (w.alloc (.cells (row32 8 ivW) 53)).heap.size = w.heap.size + 1 := by simp
  have H0 := Lib.hid (heap_alloc_at w (.cells (row32 8 ivW) 53))
  have B0 := Lib.hid ((Below.refl w.heap.size w).alloc (Nat.le_refl _) (.cells (row32 8 ivW) 53))
  rw [e1] at hown
  have hown := Lib.hid hown
  clear e1
  go_enter Tryz.func35, Tryz.ntmps35
  go_wp2_with (first
    | (refine wpList_load_mid (op := ⟨some 34, _, _, _, _, _⟩) rfl 53 _ rfl b 0 rfl (row32 8 ivW).toList _ RG Tryz.underlying53 rfl (by kernel_rfl) ?_; rw [Array.toArray_toList])
    | (refine wpList_store_row rfl 53 _ _ rfl w.heap.size rfl 53 _ _ rfl (heap_alloc_at _ _) (by kernel_rfl) (by rfl) (row32_one _ _) ?_; rw [World.setRow_alloc_new])
    | (at_builtin; refine append_own [128] (w.heap.size + 1) _ s.data.toList (.tmp 36) (.tmp 37) _ rfl rfl rfl 1 1 _ rfl (by simp) rfl Nat.one_pos rfl hown.out (by rw [HL.out]; show s.size + 1 ≤ _; omega) (Nat.le_of_lt (ownsC_lt hown.out _ rfl)) ?_; intro v' w' hO hg _))
  have HS := Lib.hid (grown_heap (b := w.heap.size + 1) hg ((heap_alloc_old _ _ (by simp)).trans H0.out) (by omega))
  have BB := Lib.hid (((B0.out.drew).alloc B0.out.drew.size _).grown hg ((B0.out.drew).alloc B0.out.drew.size _).size (by rintro _ ⟨⟩; exact Nat.le_succ _))
  have HO : Hid (ownsC w' (w.heap.size + 1) v' (padZ s.data.toList 0)) := Lib.hid (by rw [padZ, List.replicate_zero, List.append_nil]; exact hO)
  clear hO hg hown hconv H0 B0 RG
  go_loopw [7] (fun v wr => ∃ k : Nat, k ≤ zerosOf s.size ∧ Hid (ownsC wr (w.heap.size + 1) v (padZ s.data.toList k)) ∧ Hid (wr.heap[w.heap.size]? = some (.cells (row32 8 ivW) 53 (0, 0))) ∧ Hid (Below w.heap.size w wr)) (fun v _ => s.size + 1 + zerosOf s.size - lenV v)
  case atStart => exact ⟨0, Nat.zero_le _, HO, HS, BB⟩
  case round =>
    clear HO HS BB
    obtain ⟨k, hkz, HO, HS, BB⟩ := hrel
    have hlen : (padZ s.data.toList k).length = s.size + 1 + k := by rw [padZ_length, HL.out]
    obtain ⟨p, cap, rfl⟩ := ownsC_form' HO.out hlen
    have hz := zerosOf_lt s.size
    by_cases hlt : k < zerosOf s.size
    · have hne := zerosOf_first s.size k hlt
      go_wp2_with (at_builtin; refine append_own [0] (w.heap.size + 1) _ (padZ s.data.toList k) (.tmp 43) (.tmp 44) _ rfl rfl rfl 1 1 _ rfl (by simp) rfl Nat.one_pos rfl HO.out (by rw [hlen]; show s.size + 1 + k + 1 ≤ _; omega) (lt_of_heap HS.out) ?_; intro v' w' hO hg _)
      rw [← padZ_succ] at hO
      have hbase := ownsC_base HO.out
      have HS2 := Lib.hid ((hg.block _ (lt_of_heap HS.out) (fun e => by have := hbase _ e.symm; omega)).trans HS.out)
      have BB2 := Lib.hid (BB.out.grown hg BB.out.size (fun g e => by have := hbase g e; omega))
      have hlen' : (padZ s.data.toList (k + 1)).length = s.size + 1 + (k + 1) := by rw [padZ_length, HL.out]
      obtain ⟨p', cap', rfl⟩ := ownsC_form' hO hlen'
      have HO2 := Lib.hid hO
      clear hO hg HO HS BB hbase
      go_wp2_with fail
      go_roundw
      case rel => exact ⟨k + 1, by omega, HO2, HS2, BB2⟩
      case measure => simp [lenV]; omega
    · obtain rfl : k = zerosOf s.size := by omega
      have hend : ((s.size : Int) + 1 + (zerosOf s.size : Int)) % 64 = 56 := by have := zerosOf_end s.size; omega
      go_wp2_with fail
      have HOz := HO
      generalize hP : padZ s.data.toList (zerosOf s.size) = P at HO hlen
      have HP := Lib.hid hP
      clear hP hlt hkz HOz hend
      go_loopw [8, 7] (fun i v wr => ∃ k : Nat, k ≤ 8 ∧ i = .int .i64 (56 - 8 * (k : Int)) ∧ Hid (ownsC wr (w.heap.size + 1) v (P ++ numTo (8 * s.size) k)) ∧ Hid (wr.heap[w.heap.size]? = some (.cells (row32 8 ivW) 53 (0, 0))) ∧ Hid (Below w.heap.size w wr)) (fun i _ _ => (intOf i + 8).toNat)
      case atStart => exact ⟨0, by omega, rfl, by simpa [numTo] using HO, HS, BB⟩
      case round =>
        clear HO HS BB
        obtain ⟨k, hk8, rfl, HO, HS, BB⟩ := hrel
        by_cases hlt : k < 8
        · have hge : (0 : Int) ≤ 56 - 8 * k := by omega
          have hv : Hid (#[Value.int .u8 ((s.size : Int) * 8 / 2 ^ (56 - 8 * k) % 256)] = (B8 [byteOf (8 * s.size) (7 - k)]).toArray) := by
            apply Lib.hid; simp only [B8, List.map_cons, List.map_nil, byteOf_val]
            rw [Int.mul_comm (s.size : Int) 8, Int.emod_eq_of_lt (a := 8 * (s.size : Int)) (b := 18446744073709551616) (by omega) (by omega), show 8 * (7 - k) = 56 - 8 * k by omega]
          go_wp2_with (at_builtin; go_loud (refine append_own [byteOf (8 * s.size) (7 - k)] (w.heap.size + 1) _ (P ++ numTo (8 * s.size) k) (.tmp 50) (.tmp 58) _ rfl rfl rfl 1 1 _ rfl (by simp) rfl Nat.one_pos hv.out HO.out (by rw [List.length_append, hlen, numTo_length]; show s.size + 1 + zerosOf s.size + k + 1 ≤ _; omega) (lt_of_heap HS.out) ?_); intro v' w' hO hg _)
          rw [List.append_assoc, ← numTo_succ] at hO
          have hbase := ownsC_base HO.out
          have HS2 := Lib.hid ((hg.block _ (lt_of_heap HS.out) (fun e => by have := hbase _ e.symm; omega)).trans HS.out)
          have BB2 := Lib.hid (BB.out.grown hg BB.out.size (fun g e => by have := hbase g e; omega))
          have HO2 := Lib.hid hO
          clear hO hg HO HS BB hbase hv
          go_wp2_with fail
          go_roundw
          case rel => exact ⟨k + 1, by omega, by go_num, HO2, HS2, BB2⟩
          case measure => simp [intOf]; omega
        · obtain rfl : k = 8 := by omega
          rw [show (56 : Int) - 8 * ((8 : Nat) : Int) = -8 from rfl]
          have hpe : padded s.data.toList = P ++ numTo (8 * s.size) 8 := by unfold padded numB; rw [HL.out, HP.out]
          rw [← hpe] at HO
          have hL : (padded s.data.toList).length = 64 * ((s.size + 72) / 64) := by rw [padded_length, HL.out]
          clear hpe hlen hlt hk8
          generalize hM : (s.size + 72) / 64 = M at hL
          have hMs : 64 * M ≤ s.size + 72 := by omega
          have HM := Lib.hid hM
          clear hM
          have HF : Hid (wr.heap[w.heap.size]? = some (.cells (row32 8 (foldSha (padded s.data.toList) 0)) 53 (0, 0))) := HS
          clear HS
          generalize hD : padded s.data.toList = D at HO hL HF
          have HD := Lib.hid hD
          clear hD
          rcases HO.out with ⟨_, h0⟩ | ⟨g, cap, rfl, hgb, -, hcap, -⟩
          · have := congrArg List.length h0; rw [hL] at this; simp at this; have := HM.out; omega
          rw [hL] at HO hcap ⊢
          go_wp2_with fail
          go_loopw [7] (fun v wr => ∃ k N c o : Nat, k + N = M ∧ Hid (64 * k + c = cap) ∧ 64 * N ≤ c ∧ (N ≠ 0 → o = 64 * k) ∧ v = .slice (some ⟨g, o, none⟩) (64 * N) c ∧ Hid (ownsC wr (w.heap.size + 1) (.slice (some ⟨g, 0, none⟩) (64 * M) cap) D) ∧ Hid (wr.heap[w.heap.size]? = some (.cells (row32 8 (foldSha D k)) 53 (0, 0))) ∧ Hid (Below w.heap.size w wr)) (fun v _ => lenV v)
          case atStart => exact ⟨0, M, cap, 0, by omega, Lib.hid (by omega), hcap, fun _ => rfl, rfl, HO, HF, BB⟩
          case round =>
            clear HO HF BB hcap
            obtain ⟨k, N, c, o, hkN, Hc, hNc, ho, rfl, HO, HF, BB⟩ := hrel
            cases N with
            | zero =>
              obtain rfl : k = M := by omega
              rw [Nat.mul_zero]
              clear hNc ho
              generalize hE : foldSha D k = E at HF ⊢
              have HE := Lib.hid hE
              clear hE HO
              go_wp2_with (refine wpList_load_row (o := ⟨some 239, _, _, _, _, _⟩) rfl 53 _ rfl w.heap.size rfl 53 _ (0, 0) _ HF.out Tryz.underlying53 rfl (by kernel_rfl) ?_)
              have hidx := fun (q : Nat) (hq : q < 8) (W : World) => run_index_row32 (P := Tryz.prog) (ty := 53) (A := E) hq Tryz.underlying53 (fun _ => by kernel_rfl) (fun _ => by kernel_rfl) W
              generalize hrow : row32 8 E = rowE at hidx ⊢
              clear hrow HF
              go_loopw [240, 28] (fun iv ov wr => ∃ q : Nat, q ≤ 8 ∧ iv = .int .i64 q ∧ ov = .string ⟨(wordsB E q).toArray⟩ ∧ Hid (Below w.heap.size w wr)) (fun iv _ _ => 8 - (intOf iv).toNat)
              case atStart => exact ⟨0, by omega, rfl, rfl, BB⟩
              case round =>
                clear BB
                obtain ⟨q, hq8, rfl, rfl, BB⟩ := hrel
                by_cases hlt : q < 8
                · have hix := hidx q hlt
                  have hconv := string_of_be4 wr (E q)
                  have HS2 := Lib.hid (wordsB_succ E q)
                  have hwl := wordsB_length E q
                  have hbl : (be4 (E q)).length = 4 := rfl
                  generalize be4 (E q) = B4 at hconv HS2 hbl
                  generalize wordsB E q = L at HS2 hwl ⊢
                  have hnb : ¬ 9223372036854775807 < L.length + B4.length := by omega
                  clear hidx
                  go_wp2_with fail
                  go_roundw
                  case rel => exact ⟨q + 1, by omega, by go_num, by rw [str_append, HS2.out], Lib.hid (BB.out.alloc BB.out.size _)⟩
                  case measure => simp [intOf]; omega
                · obtain rfl : q = 8 := by omega
                  rw [show ((8 : Nat) : Int) = 8 from rfl]
                  have e : Hid (sumB s.data.toList = wordsB E 8) := Lib.hid (by unfold sumB; rw [HL.out, HM.out, HD.out, HE.out])
                  clear hidx
                  go_wp2_with fail
                  go_ret
                  exact ⟨by rw [e.out]; rfl, ext_of BB.out⟩
            | succ n =>
              obtain rfl : o = 64 * k := ho (by omega)
              clear ho
              have hpos : decide ((0 : Int) < 64 * ((n : Int) + 1)) = true := decide_eq_true (by omega)
              have hDb : Hid (∀ i, i < 64 → wr.cell? ⟨g, 64 * k + i, none⟩ = some (.int .u8 (((part64 D k).getD i 0).toNat : Int))) := Lib.hid (fun i hi => by
                rcases HO.out with ⟨h0, _⟩ | ⟨g', cap', h0, -, -, -, -, -, -, h3⟩
                · cases h0
                · obtain rfl : g = g' := by injection h0 with a b c; injection a with a; injection a
                  have hlt : 64 * k + i < D.length := by rw [hL]; omega
                  rw [part_get D k i hi]
                  exact h3 _ _ (by simp [B8, List.getD_eq_getElem?_getD, List.getElem?_eq_getElem hlt]))
              have HOlt := Lib.hid (ownsC_lt HO.out g rfl)
              have hne : Hid (w.heap.size ≠ wr.heap.size ∧ g ≠ wr.heap.size) := Lib.hid (by have := lt_of_heap HF.out; have := HOlt.out; omega)
              generalize hl64 : part64 D k = l64 at hDb
              have HL64 := Lib.hid hl64
              clear hl64
              go_wp2_with fail
              have HF1 := Lib.hid ((heap_alloc_old wr (.cells (row32 64 (wAt l64 0)) 54) (lt_of_heap HF.out)).trans HF.out)
              have HW1 := Lib.hid (heap_alloc_at wr (.cells (row32 64 (wAt l64 0)) 54))
              have BB1 := Lib.hid (BB.out.alloc BB.out.size (.cells (row32 64 (wAt l64 0)) 54))
              have HG1 : Hid (wr.grownBy (wr.alloc (.cells (row32 64 (wAt l64 0)) 54)) (some wr.heap.size)) := Lib.hid (World.grownBy_alloc _ _ _)
              change Code.wp _ _ _ _ (wr.alloc (.cells (row32 64 (wAt l64 0)) 54))
              obtain ⟨w0, rfl⟩ : ∃ w0, w0 = wr := ⟨wr, rfl⟩
              generalize w0.alloc (.cells (row32 64 (wAt l64 0)) 54) = w1 at HF1 HW1 BB1 HG1 ⊢
              have hgw : Hid (w.heap.size ≤ w0.heap.size) := Lib.hid BB.out.size
              have hgw0 : Hid (g < w0.heap.size → g < w0.heap.size) := Lib.hid id
              generalize hgwx : w0.heap.size = gw at hne hgw HG1 HW1 ⊢
              clear hgwx hgw0
              go_loopw [65] (fun iv wr => ∃ t : Nat, t ≤ 64 ∧ iv = .int .i64 t ∧ Hid (wr.heap[gw]? = some (.cells (row32 64 (wAt l64 t)) 54 (0, 0))) ∧ Hid (wr.heap[w.heap.size]? = some (.cells (row32 8 (foldSha D k)) 53 (0, 0))) ∧ Hid (Below w.heap.size w wr) ∧ Hid (w0.grownBy wr (some gw))) (fun iv _ => 64 - (intOf iv).toNat)
              case atStart => exact ⟨0, by omega, rfl, HW1, HF1, BB1, HG1⟩
              case round =>
                clear HW1 HF1 BB1 HG1 HF BB
                obtain ⟨t, ht, rfl, HW, HF, BB, HG⟩ := hrel
                have lw := lt_of_heap HW.out
                by_cases ht64 : t < 64
                · by_cases ht16 : t < 16
                  · have W0 : Hid (wr.heap[gw]? = some (.cells (row32 64 (upd (wordsTo l64 t) t (partW l64 (4 * t) 0))) 54 (0, 0))) := Lib.hid (by
                      rw [upd_id _ _ _ (show wordsTo l64 t t = partW l64 (4 * t) 0 by unfold wordsTo; rw [if_neg (Nat.lt_irrefl _)]; rfl), ← wAt_low l64 t (by omega)]; exact HW.out)
                    have HD2 : Hid (∀ i, i < 64 → wr.cell? ⟨g, 64 * k + i, none⟩ = some (.int .u8 ((l64.getD i 0).toNat : Int))) := Lib.hid (fun i hi => by
                      rw [cell_in, HG.out.block g HOlt.out (by intro e; injection e with e; exact hne.out.2 e), ← cell_in]; exact hDb.out i hi)
                    have b1 : (0 : Int) ≤ 4 * (t : Int) := by omega
                    have b2 : 4 * (t : Int) + 4 ≤ c := by omega
                    clear HW
                    go_wp2_with fail
                    go_loopw [78] (fun jv wr => ∃ j : Nat, j ≤ 4 ∧ jv = .int .i64 j ∧ Hid (wr.heap[gw]? = some (.cells (row32 64 (upd (wordsTo l64 t) t (partW l64 (4 * t) j))) 54 (0, 0))) ∧ Hid (wr.heap[w.heap.size]? = some (.cells (row32 8 (foldSha D k)) 53 (0, 0))) ∧ Hid (Below w.heap.size w wr) ∧ Hid (w0.grownBy wr (some gw)) ∧ Hid (∀ i, i < 64 → wr.cell? ⟨g, 64 * k + i, none⟩ = some (.int .u8 ((l64.getD i 0).toNat : Int)))) (fun jv _ => 4 - (intOf jv).toNat)
                    case atStart => exact ⟨0, by omega, rfl, W0, HF, BB, HG, HD2⟩
                    case round =>
                      clear W0 HF BB HG HD2
                      obtain ⟨j, hj, rfl, HW, HF, BB, HG, HD2⟩ := hrel
                      have lw := lt_of_heap HW.out
                      by_cases hj4 : j < 4
                      · have hcb := HD2.out (4 * t + j) (by omega)
                        rw [← Nat.add_assoc] at hcb
                        have hcw := cell_of_row32 HW.out t (by omega)
                        have hfw := free_of_heap HW.out t
                        rw [show upd (wordsTo l64 t) t (partW l64 (4 * t) j) t = partW l64 (4 * t) j by unfold upd; rw [if_pos rfl]] at hcw
                        have HP1 : Hid (upd (upd (wordsTo l64 t) t (partW l64 (4 * t) j)) t (partW l64 (4 * t) j * 256 + BitVec.ofNat 32 (l64.getD (4 * t + j) 0).toNat) = upd (wordsTo l64 t) t (partW l64 (4 * t) (j + 1))) := Lib.hid (upd_upd _ _ _ _)
                        have hst := partW_step (partW l64 (4 * t) j) (l64.getD (4 * t + j) 0)
                        generalize l64.getD (4 * t + j) 0 = by0 at hcb HP1 hst
                        generalize partW l64 (4 * t) j = X at hcw HP1 hst HW
                        go_wp2_with fail
                        obtain ⟨S, U⟩ := store_row32' (i := t) (v := X * 256 + BitVec.ofNat 32 by0.toNat) rfl HW.out
                        rw [HP1.out] at S
                        have S := Lib.hid S
                        have HF2 := Lib.hid (grown_heap U HF.out (by have := hne.out.1; omega))
                        have BB2 := Lib.hid (BB.out.grown U BB.out.size (by rintro _ ⟨⟩; exact hgw.out))
                        have HG2 := Lib.hid (HG.out.trans U)
                        have HD3 : Hid (∀ i, i < 64 → (wr.setCell ⟨gw, t, none⟩ (.int .u32 (val (X * 256 + BitVec.ofNat 32 by0.toNat)))).cell? ⟨g, 64 * k + i, none⟩ = some (.int .u8 ((l64.getD i 0).toNat : Int))) := Lib.hid (fun i hi => by
                          rw [cell_in, HG2.out.block g HOlt.out (by intro e; injection e with e; exact hne.out.2 e), ← cell_in]; exact hDb.out i hi)
                        generalize wr.setCell ⟨gw, t, none⟩ (.int .u32 (val (X * 256 + BitVec.ofNat 32 by0.toNat))) = w5 at S HF2 BB2 HG2 HD3 ⊢
                        clear U HW HF BB HG HD2
                        go_roundw
                        case rel => exact ⟨j + 1, by omega, by go_num, S, HF2, BB2, HG2, HD3⟩
                        case measure => simp [intOf]; omega
                      · obtain rfl : j = 4 := by omega
                        rw [show ((4 : Nat) : Int) = 4 from rfl]
                        have HW4 : Hid (wr.heap[gw]? = some (.cells (row32 64 (wAt l64 (t + 1))) 54 (0, 0))) := Lib.hid (by
                          rw [wAt_low l64 (t + 1) (by omega), ← wordsTo_succ, ← partW_four]; exact HW.out)
                        clear HW
                        go_wp2_with fail
                        go_roundw
                        case rel => exact ⟨t + 1, by omega, by go_num, HW4, HF, BB, HG⟩
                        case measure => simp [intOf]; omega
                  · have jlt : (t : Int) < 64 := by omega
                    have b15 : (0 : Int) ≤ (t : Int) - 15 := by omega
                    have c15 : (t : Int) - 15 < 64 := by omega
                    have b2 : (0 : Int) ≤ (t : Int) - 2 := by omega
                    have c2 : (t : Int) - 2 < 64 := by omega
                    have H : Hid (wr.heap[gw]? = some (.cells (row32 64 (sched (wordsTo l64 16) (t - 16))) 54 (0, 0))) := Lib.hid (by rw [← wAt_high l64 t (by omega)]; exact HW.out)
                    have hs2 := sched_at (wordsTo l64 16) t (by omega)
                    have hc15 := cell_of_row32 H.out (t - 15) (by omega)
                    have hc2 := cell_of_row32 H.out (t - 2) (by omega)
                    clear HW
                    go_wp2_with fail
                    refine wp_region_ext (by kernel_rfl) (by kernel_rfl) ?_
                    repeat (go_big_quiet_step (fail))
                    refine wpQuiet_nil ?_
                    rintro _ ⟨x1, rfl⟩
                    have H1 := Lib.hid ((ext_heap (x := x1) lw).trans H.out)
                    have HF1 := Lib.hid ((ext_heap (x := x1) (lt_of_heap HF.out)).trans HF.out)
                    have B1 := Lib.hid (BB.out.grown (grown_ext wr x1 none) BB.out.size (by rintro _ ⟨⟩))
                    have HG1 := Lib.hid (HG.out.trans (grown_ext wr x1 (some gw)))
                    generalize ext wr x1 = w5 at H1 HF1 B1 HG1 ⊢
                    clear H HF BB HG hc15 hc2 lw
                    have lw := lt_of_heap H1.out
                    have hf := free_of_heap H1.out
                    have b16 : (0 : Int) ≤ (t : Int) - 16 := by omega
                    have c16 : (t : Int) - 16 < 64 := by omega
                    have hc16 := cell_of_row32 H1.out (t - 16) (by omega)
                    have b7 : (0 : Int) ≤ (t : Int) - 7 := by omega
                    have c7 : (t : Int) - 7 < 64 := by omega
                    have hc7 := cell_of_row32 H1.out (t - 7) (by omega)
                    have hcj := cell_of_row32 H1.out t (by omega)
                    go_wp2_with fail
                    refine wp_region_tail 33 (by kernel_rfl) (by kernel_rfl) ?_
                    simp only [List.take_succ_cons, List.take_zero, List.drop_succ_cons, List.drop_zero]
                    repeat (go_big_quiet_step ((go_at_call 52; refine (rrot_z _ _ (by omega) (by omega) _).mono ?_; rintro _ _ ⟨rfl, hx⟩; exact ⟨rfl, ext_trans ⟨_, rfl⟩ hx⟩)))
                    refine wpQuiet_nil ?_
                    rintro _ ⟨x3, rfl⟩
                    go_wp2_with fail
                    obtain ⟨S, U⟩ := store_row32 (x := x3) (i := t) (v := sigB (sched (wordsTo l64 16) (t - 16) (t - 2)) + sched (wordsTo l64 16) (t - 16) (t - 7) + sigA (sched (wordsTo l64 16) (t - 16) (t - 15)) + sched (wordsTo l64 16) (t - 16) (t - 16)) H1.out
                    have e5 : upd (sched (wordsTo l64 16) (t - 16)) t (sigB (sched (wordsTo l64 16) (t - 16) (t - 2)) + sched (wordsTo l64 16) (t - 16) (t - 7) + sigA (sched (wordsTo l64 16) (t - 16) (t - 15)) + sched (wordsTo l64 16) (t - 16) (t - 16)) = wAt l64 (t + 1) := by
                      rw [sched_is, hs2, wAt_high l64 (t + 1) (by omega)]
                    rw [e5] at S
                    go_roundw
                    case rel => exact ⟨t + 1, by omega, by go_num, Lib.hid S, Lib.hid (grown_heap U HF1.out (by have := hne.out.1; omega)), Lib.hid (B1.out.grown U B1.out.size (by rintro _ ⟨⟩; exact hgw.out)), Lib.hid (HG1.out.trans U)⟩
                    case measure => simp [intOf]; omega
                · obtain rfl : t = 64 := by omega
                  rw [show ((64 : Nat) : Int) = 64 from rfl]
                  have HW4 : Hid (wr.heap[gw]? = some (.cells (row32 64 (sched (wordsTo l64 16) 48)) 54 (0, 0))) := HW
                  clear HW ht ht64
                  generalize hS : sched (wordsTo l64 16) 48 = S at HW4
                  have HSe := Lib.hid hS
                  generalize hH : foldSha D k = H at HF
                  have HHe := Lib.hid hH
                  clear hS hH lw
                  have lw := lt_of_heap HW4.out
                  have lf := lt_of_heap HF.out
                  have hcf := cell_of_row32 HF.out
                  go_wp2_with fail
                  refine wp_region_ext (by kernel_rfl) (by kernel_rfl) ?_
                  repeat (go_big_quiet_step (fail))
                  refine wpQuiet_nil ?_
                  rintro _ ⟨x1, rfl⟩
                  have HW5 := Lib.hid ((ext_heap (x := x1) lw).trans HW4.out)
                  have HF5 := Lib.hid ((ext_heap (x := x1) lf).trans HF.out)
                  have BB5 := Lib.hid (BB.out.grown (grown_ext wr x1 none) BB.out.size (by rintro _ ⟨⟩))
                  have HG5 := Lib.hid (HG.out.trans (grown_ext wr x1 (some gw)))
                  generalize ext wr x1 = w5 at HW5 HF5 BB5 HG5 ⊢
                  clear HW4 HF BB HG hcf lw lf
                  go_wp2_with fail
                  go_loopw [150, 15, 16, 17, 18, 19, 20, 21, 22] (fun iv va vb vc vd ve vf vg vh wr => ∃ q : Nat, q ≤ 64 ∧ iv = .int .i64 q ∧ ∃ V, Hid (shaRounds H S q = V) ∧ va = .int .u32 (val (V 0)) ∧ vb = .int .u32 (val (V 1)) ∧ vc = .int .u32 (val (V 2)) ∧ vd = .int .u32 (val (V 3)) ∧ ve = .int .u32 (val (V 4)) ∧ vf = .int .u32 (val (V 5)) ∧ vg = .int .u32 (val (V 6)) ∧ vh = .int .u32 (val (V 7)) ∧
                    Hid (wr.heap[gw]? = some (.cells (row32 64 S) 54 (0, 0))) ∧ Hid (wr.heap[w.heap.size]? = some (.cells (row32 8 H) 53 (0, 0))) ∧ Hid (Below w.heap.size w wr) ∧ Hid (w0.grownBy wr (some gw))) (fun iv _ _ _ _ _ _ _ _ _ => 64 - (intOf iv).toNat)
                  case atStart => exact ⟨0, by omega, rfl, H, Lib.hid rfl, rfl, rfl, rfl, rfl, rfl, rfl, rfl, rfl, HW5, HF5, BB5, HG5⟩
                  case round =>
                    clear HW5 HF5 BB5 HG5
                    obtain ⟨q, hq, rfl, V, HV, rfl, rfl, rfl, rfl, rfl, rfl, rfl, rfl, HW, HF, BB, HG⟩ := hrel
                    have lw := lt_of_heap HW.out
                    by_cases hq64 : q < 64
                    · have RR := Lib.hid (isR_of R.out (fun j hj => BB.out.block j hj))
                      have hck := cell_of_row32 RR.out (8 + q) (by omega)
                      rw [refR_k q hq64] at hck
                      have lr := lt_of_heap RR.out
                      have hcw := cell_of_row32 HW.out q hq64
                      go_wp2_with fail
                      refine wp_region_ext (by kernel_rfl) (by kernel_rfl) ?_
                      repeat (go_big_quiet_step ((go_at_call 52; refine (rrot_z _ _ (by omega) (by omega) _).mono ?_; rintro _ _ ⟨rfl, hx⟩; exact ⟨rfl, ext_trans ⟨_, rfl⟩ hx⟩)))
                      refine wpQuiet_nil ?_
                      rintro _ ⟨x2, rfl⟩
                      rw [add32, one_is]
                      have HW2 := Lib.hid ((ext_heap (x := x2) lw).trans HW.out)
                      have HF2 := Lib.hid ((ext_heap (x := x2) (lt_of_heap HF.out)).trans HF.out)
                      have BB2 := Lib.hid (BB.out.grown (grown_ext wr x2 none) BB.out.size (by rintro _ ⟨⟩))
                      have HG2 := Lib.hid (HG.out.trans (grown_ext wr x2 (some gw)))
                      have HV1 : Hid (shaRounds H S (q + 1) = shaStep V (K256 q) (S q)) := Lib.hid (by show shaStep (shaRounds H S q) _ _ = _; rw [HV.out])
                      have E0 : Hid (shaStep V (K256 q) (S q) 0 = stepOne V (K256 q) (S q) + stepTwo V) := Lib.hid rfl
                      have E4 : Hid (shaStep V (K256 q) (S q) 4 = V 3 + stepOne V (K256 q) (S q)) := Lib.hid rfl
                      have ER : Hid (shaStep V (K256 q) (S q) 1 = V 0 ∧ shaStep V (K256 q) (S q) 2 = V 1 ∧ shaStep V (K256 q) (S q) 3 = V 2 ∧ shaStep V (K256 q) (S q) 5 = V 4 ∧ shaStep V (K256 q) (S q) 6 = V 5 ∧ shaStep V (K256 q) (S q) 7 = V 6) := Lib.hid ⟨rfl, rfl, rfl, rfl, rfl, rfl⟩
                      generalize shaStep V (K256 q) (S q) = V2 at HV1 E0 E4 ER
                      generalize stepOne V (K256 q) (S q) = one at E0 E4 ⊢
                      generalize ext wr x2 = w6 at HW2 HF2 BB2 HG2 ⊢
                      clear HW HF BB HG RR hck lr hcw lw HV
                      go_wp2_with fail
                      refine (rrot_z _ _ (by omega) (by omega) _).mono ?_
                      rintro _ w7 ⟨rfl, hx7⟩
                      go_wp2_with fail
                      refine (rrot_z _ _ (by omega) (by omega) _).mono ?_
                      rintro _ w8 ⟨rfl, hx8⟩
                      go_wp2_with fail
                      refine (rrot_z _ _ (by omega) (by omega) _).mono ?_
                      rintro _ w9 ⟨rfl, hx9⟩
                      have hX := Lib.hid (ext_trans (ext_trans hx7 hx8) hx9)
                      clear hx7 hx8 hx9
                      have HW3 := Lib.hid (((ext_iff.1 hX.out).block _ (lt_of_heap HW2.out)).trans HW2.out)
                      have HF3 := Lib.hid (((ext_iff.1 hX.out).block _ (lt_of_heap HF2.out)).trans HF2.out)
                      have BB3 := Lib.hid (BB2.out.trans ((ext_iff.1 hX.out).mono BB2.out.size))
                      have HG3 := Lib.hid (HG2.out.trans (grown_below (ext_iff.1 hX.out) (some gw)))
                      clear HW2 HF2 BB2 HG2 hX
                      have T2 := Lib.hid (two_is V)
                      go_wp2_with fail
                      go_roundw
                      case rel => exact ⟨q + 1, by omega, by go_num, V2, HV1, by rw [add32, T2.out, ← E0.out], by rw [ER.out.1], by rw [ER.out.2.1], by rw [ER.out.2.2.1], by rw [add32, ← E4.out], by rw [ER.out.2.2.2.1], by rw [ER.out.2.2.2.2.1], by rw [ER.out.2.2.2.2.2], HW3, HF3, BB3, HG3⟩
                      case measure => simp [intOf]; omega
                    · obtain rfl : q = 64 := by omega
                      rw [show ((64 : Nat) : Int) = 64 from rfl]
                      have HSB : Hid (foldSha D (k + 1) = addTo H V 8) := Lib.hid (by
                        show shaBlock (foldSha D k) (part64 D k) = _
                        rw [HHe.out, HL64.out]
                        unfold shaBlock
                        rw [HSe.out, HV.out])
                      have HOw := Lib.hid (ownsC_kept HO.out HG.out (fun j e => by injection e with e; simp only [Value.ownBlock]; intro e2; injection e2 with e2; have := hne.out.2; omega))
                      clear HW HG hq hq64 HV lw
                      go_wp2_with fail
                      rw [← row8' V]
                      have hidx := fun (q : Nat) (hq : q < 8) (W : World) => run_index_row32 (P := Tryz.prog) (ty := 53) (A := V) hq Tryz.underlying53 (fun _ => by kernel_rfl) (fun _ => by kernel_rfl) W
                      generalize hrow : row32 8 V = rowV at hidx ⊢
                      clear hrow
                      go_loopw [228] (fun iv wr => ∃ i : Nat, i ≤ 8 ∧ iv = .int .i64 i ∧ Hid (wr.heap[w.heap.size]? = some (.cells (row32 8 (addTo H V i)) 53 (0, 0))) ∧ Hid (Below w.heap.size w wr) ∧ Hid (ownsC wr (w.heap.size + 1) (.slice (some ⟨g, 0, none⟩) (64 * M) cap) D)) (fun iv _ => 8 - (intOf iv).toNat)
                      case atStart => exact ⟨0, by omega, rfl, by rw [show addTo H V 0 = H by funext j; unfold addTo; rw [if_neg (Nat.not_lt_zero _)]]; exact HF, BB, HOw⟩
                      case round =>
                        clear HF BB HOw
                        obtain ⟨i, hi, rfl, HF, BB, HOw⟩ := hrel
                        have lf := lt_of_heap HF.out
                        by_cases hi8 : i < 8
                        · have hix := hidx i hi8
                          have hcf := cell_of_row32 HF.out i hi8
                          have hff := free_of_heap HF.out i
                          clear hidx
                          go_wp2_with fail
                          obtain ⟨S4, U4⟩ := store_row32' (i := i) (v := addTo H V i i + V i) rfl HF.out
                          rw [addTo_succ] at S4
                          have BB4 := Lib.hid (BB.out.grown U4 BB.out.size (by rintro _ ⟨⟩; exact Nat.le_refl _))
                          have HO4 := Lib.hid (ownsC_kept HOw.out U4 (fun j e => by injection e with e; simp only [Value.ownBlock]; intro e2; injection e2 with e2; omega))
                          have S4 := Lib.hid S4
                          clear U4 HF BB HOw
                          go_roundw
                          case rel => exact ⟨i + 1, by omega, by go_num, S4, BB4, HO4⟩
                          case measure => simp [intOf]; omega
                        · obtain rfl : i = 8 := by omega
                          rw [show ((8 : Nat) : Int) = 8 from rfl]
                          have HF8 : Hid (wr.heap[w.heap.size]? = some (.cells (row32 8 (foldSha D (k + 1))) 53 (0, 0))) := Lib.hid (by rw [HSB.out]; exact HF.out)
                          clear HF hidx hi hi8
                          have h64c : 64 ≤ c := by omega
                          have hn64 : 64 * (n + 1) - 64 = 64 * n := by omega
                          go_wp2_with fail
                          go_roundw
                          case rel => exact ⟨k + 1, n, c - 64, if c = 64 then 64 * k else 64 * k + 64, by omega, Lib.hid (by have := Hc.out; omega), by omega, fun hn => by rw [if_neg (by omega)]; omega, by rw [show 64 * n = 64 * (n + 1) - 64 by omega]; split <;> rfl, HOw, HF8, BB⟩
                          case measure => simp [lenV]
end Go.Proofs.YtnmpchojhbmbmaaGreatDoor
