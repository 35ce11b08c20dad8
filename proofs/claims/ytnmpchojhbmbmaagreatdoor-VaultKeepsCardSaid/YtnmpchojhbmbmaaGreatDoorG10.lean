/- The reference's numbers: times, above, root, primes, New (the walks). -/
import Derived.Test.YtnmpchojhbmbmaaGreatDoorProg
import Derived.Test.YtnmpchojhbmbmaaGreatDoorG7
import Derived.Test.YtnmpchojhbmbmaaGreatDoorNums
import Derived.Test.YtnmpchojhbmbmaaGreatDoorRoots
namespace Go.Proofs.YtnmpchojhbmbmaaGreatDoor
open Go.RowKit

theorem vint {K : IntKind} {a b : Int} (h : a = b) : Value.int K a = Value.int K b := by rw [h]
def lenS : Value → Nat
  | .slice _ n _ => n
  | _ => 0
theorem info64 : (Tryz.prog.info? 60).map (fun i => (i.zero, i.size, i.bytes)) = some (some (.int .u64 0), 1, 8) := by kernel_rfl
theorem infoI : (Tryz.prog.info? 3).map (fun i => (i.zero, i.size, i.bytes)) = some (some (.int .i64 0), 1, 8) := by kernel_rfl
def timesIs (l : List Nat) (x : Nat) (out : List Nat) : Prop := small out ∧ limbs out = limbs l * x ∧ l.length ≤ out.length ∧ out.length ≤ l.length + 3
def TimesPost (l : List Nat) (x : Nat) (w : World) (r : Ending) (w' : World) : Prop :=
  ∃ v out, r = .returned v ∧ timesIs l x out ∧ ownsN w' w.heap.size 60 .u64 v out ∧ ∃ x, w' = ext w x
/-- How far the product is. -/
def carryAt (n i c : Nat) : Prop := (i ≤ n ∧ c ≤ 1099511627776) ∨ (i = n + 1 ∧ c ≤ 16777216) ∨ (i = n + 2 ∧ c ≤ 256) ∨ (i = n + 3 ∧ c = 0)

set_option maxRecDepth 100000 in
set_option maxHeartbeats 2000000 in
theorem times_any (g cap : Nat) (l : List Nat) (x : Nat) (w : World) (hg : g < w.heap.size) (hc : ∀ i (hi : i < l.length), w.cell? ⟨g, i, none⟩ = some (.int .u64 (l[i] : Nat))) (hs : small l) (hl : l.length ≤ 100) (hx : x ≤ 1099511627776) :
    Calls Tryz.prog 50 #[.slice (some ⟨g, 0, none⟩) l.length cap, .int .u64 (x : Nat)] w (TimesPost l x w) := by
  have C := Lib.hid hc
  have S := Lib.hid hs
  clear hc hs
  go_enter Tryz.func50, Tryz.ntmps50
  go_wp2_with fail
  go_loopw [7, 6, 5] (fun iv cv v wr => ∃ (i c : Nat) (out : List Nat), iv = .int .i64 i ∧ cv = .int .u64 (c : Nat) ∧ Hid (carryAt l.length i c) ∧ Hid (out.length = i) ∧ Hid (small out) ∧ Hid (limbs out + 65536 ^ i * c = limbs (l.take i) * x) ∧ Hid (ownsN wr w.heap.size 60 .u64 v out) ∧ Hid (Below w.heap.size w wr)) (fun iv cv _ _ => (l.length - (intOf iv).toNat) * 2199023255552 + (intOf cv).toNat)
  case atStart => exact ⟨0, 0, [], rfl, rfl, Lib.hid (.inl ⟨Nat.zero_le _, by omega⟩), Lib.hid rfl, Lib.hid (fun _ h => by cases h), Lib.hid (by simp [limbs]), Lib.hid (ownsN_nil _ _ _ _), Lib.hid (Below.refl _ _)⟩
  case round =>
    obtain ⟨i, c, out, rfl, rfl, HC, HL, HS, HV, HO, BB⟩ := hrel
    by_cases hlt : i < l.length
    · have hcc : c ≤ 1099511627776 := by rcases HC.out with h | h | h | h <;> omega
      obtain ⟨d, hd⟩ : ∃ d, l[i] = d := ⟨_, rfl⟩
      have hdl : d < 65536 := hd ▸ S.out _ (List.getElem_mem hlt)
      have hcell : wr.cell? ⟨g, i, none⟩ = some (.int .u64 (d : Nat)) := by
        rw [cell_in, BB.out.block g hg, ← cell_in, C.out i hlt, hd]
      have HD := Lib.hid hd
      clear hd
      have hp1 : d * x ≤ 65535 * 1099511627776 := Nat.mul_le_mul (by omega) hx
      generalize hP : d * x = p at hp1
      have HP := Lib.hid hP
      clear hP
      have hmul : IntKind.u64.wrap ((d : Int) * (x : Int)) = (p : Nat) := by rw [← Int.natCast_mul, HP.out, IntKind.wrap_u64]; omega
      go_wp2_with (at_builtin; go_must (refine append_num 103 60 .u64 8 Tryz.underlying103 info64 (by decide) ((c + p) % 65536) w.heap.size _ out (.tmp 32) (.tmp 35) _ rfl rfl rfl 1 rfl (by omega) HO.out (by rw [HL.out]; omega) BB.out.size ?_); intro v' w' hO hg _)
      have hbase := ownsN_base HO.out
      have BB2 := Lib.hid (BB.out.grown hg BB.out.size (fun g e => hbase g e))
      have HO2 := Lib.hid hO
      have hl2 : (out ++ [(c + p) % 65536]).length = i + 1 := by rw [List.length_append, HL.out, List.length_singleton]
      have hs2 : small (out ++ [(c + p) % 65536]) := small_append HS.out (by intro e he; rw [List.mem_singleton] at he; omega)
      have hv2 : limbs (out ++ [(c + p) % 65536]) + 65536 ^ (i + 1) * ((c + p) / 65536) = limbs (l.take (i + 1)) * x := by
        have h1 := times_step out d x c (limbs (l.take i) * x) (by rw [HL.out]; exact HV.out)
        rw [HP.out, HL.out] at h1
        rw [h1, limbs_take_succ l i hlt, HD.out, Nat.add_mul, Nat.mul_assoc, HP.out]
      have hc2 : carryAt l.length (i + 1) ((c + p) / 65536) := .inl ⟨hlt, by omega⟩
      have HL2 := Lib.hid hl2
      have HS2 := Lib.hid hs2
      have HV2 := Lib.hid hv2
      have HC2 := Lib.hid hc2
      clear hO hg HO HS HC HV HL BB hbase hl2 hs2 hv2 hc2 hcell hmul HP
      go_wp2_with fail
      go_roundw
      case rel => exact ⟨i + 1, (c + p) / 65536, _, by go_num, vint (by omega), HC2, HL2, HS2, HV2, HO2, BB2⟩
      case measure =>
        simp [intOf]
        omega
    · by_cases hc0 : c = 0
      · subst hc0
        go_wp2_with fail
        go_ret
        refine ⟨_, out, rfl, ⟨HS.out, ?_, ?_, ?_⟩, HO.out, ext_of BB.out⟩
        · have := HV.out
          rw [List.take_of_length_le (by omega), Nat.mul_zero, Nat.add_zero] at this
          exact this
        · rw [HL.out]; omega
        · rw [HL.out]; rcases HC.out with h | h | h | h <;> omega
      · have hcc : c ≤ 1099511627776 := by rcases HC.out with h | h | h | h <;> omega
        have hpos : 0 < c := by omega
        have hi100 : i ≤ 103 := by rcases HC.out with h | h | h | h <;> omega
        go_wp2_with (at_builtin; go_must (refine append_num 103 60 .u64 8 Tryz.underlying103 info64 (by decide) (c % 65536) w.heap.size _ out (.tmp 32) (.tmp 35) _ rfl rfl rfl 1 rfl (by omega) HO.out (by rw [HL.out]; omega) BB.out.size ?_); intro v' w' hO hg _)
        have hbase := ownsN_base HO.out
        have BB2 := Lib.hid (BB.out.grown hg BB.out.size (fun g e => hbase g e))
        have HO2 := Lib.hid hO
        have hl2 : (out ++ [c % 65536]).length = i + 1 := by rw [List.length_append, HL.out, List.length_singleton]
        have hs2 : small (out ++ [c % 65536]) := small_append HS.out (by intro e he; rw [List.mem_singleton] at he; omega)
        have hv2 : limbs (out ++ [c % 65536]) + 65536 ^ (i + 1) * (c / 65536) = limbs (l.take (i + 1)) * x := by
          have h1 := times_step out 0 x c (limbs (l.take i) * x) (by rw [HL.out]; exact HV.out)
          rw [HL.out, Nat.zero_mul, Nat.add_zero, Nat.mul_zero, Nat.add_zero] at h1
          rw [h1, List.take_of_length_le (by omega), List.take_of_length_le (by omega), Nat.add_zero]
        have hc2 : carryAt l.length (i + 1) (c / 65536) := by
          rcases HC.out with h | h | h | h
          · exact .inr (.inl ⟨by omega, by omega⟩)
          · exact .inr (.inr (.inl ⟨by omega, by omega⟩))
          · exact .inr (.inr (.inr ⟨by omega, by omega⟩))
          · omega
        have HL2 := Lib.hid hl2
        have HS2 := Lib.hid hs2
        have HV2 := Lib.hid hv2
        have HC2 := Lib.hid hc2
        clear hO hg HO HS HC HV HL BB hbase hl2 hs2 hv2 hc2
        go_wp2_with fail
        go_roundw
        case rel => exact ⟨i + 1, c / 65536, _, by go_num, vint (by omega), HC2, HL2, HS2, HV2, HO2, BB2⟩
        case measure =>
          simp [intOf]
          omega

set_option maxRecDepth 100000 in
set_option maxHeartbeats 2000000 in
theorem above_any (x k p : Nat) (w : World) (hk2 : 2 ≤ k) (hk3 : k ≤ 3) (hx : x ≤ 1099511627776) (hp : p < 65536) :
    Calls Tryz.prog 33 #[.int .u64 (x : Nat), .int .i64 (k : Nat), .int .u64 (p : Nat)] w fun r w' => r = .returned (.bool (decide (p * 2 ^ (32 * k) < x ^ k))) ∧ ∃ x, w' = ext w x := by
  go_enter Tryz.func33, Tryz.ntmps33
  go_wp2_with fail
  have O1 : Hid (ownsN (w.alloc (.cells #[.int .u64 1] 60)) w.heap.size 60 .u64 (.slice (some ⟨w.heap.size, 0, none⟩) 1 1) [1]) := Lib.hid (ownsN_row (l := [1]) (heap_alloc_at _ _) (Nat.le_refl _) (by unfold maxLen; simp))
  have BB : Hid (Below w.heap.size w (w.alloc (.cells #[.int .u64 1] 60))) := Lib.hid ((Below.refl _ _).alloc (Nat.le_refl _) _)
  generalize (Value.slice (some ⟨w.heap.size, 0, none⟩) 1 1) = v1 at O1 ⊢
  generalize (w.alloc (.cells #[.int .u64 1] 60)) = w1 at O1 BB ⊢
  go_loopw [12, 7] (fun iv v wr => ∃ (i : Nat) (l : List Nat), iv = .int .i64 i ∧ i ≤ k ∧ Hid (small l) ∧ Hid (limbs l = x ^ i) ∧ Hid (1 ≤ l.length ∧ l.length ≤ 1 + 3 * i) ∧ Hid (ownsN wr w.heap.size 60 .u64 v l) ∧ Hid (Below w.heap.size w wr)) (fun iv _ _ => k - (intOf iv).toNat)
  case atStart => exact ⟨0, [1], rfl, Nat.zero_le _, Lib.hid (by intro e he; rw [List.mem_singleton] at he; omega), Lib.hid rfl, Lib.hid ⟨Nat.le_refl _, by simp⟩, O1, BB⟩
  case round =>
    clear O1 BB
    obtain ⟨i, l, rfl, hik, HS, HV, HL, HO, BB⟩ := hrel
    obtain ⟨hl1, hl2⟩ := HL.out
    rcases ownsN_form HO.out with ⟨_, h0⟩ | ⟨g, cap, rfl, hbg, hg, hcap, hmax, hcells⟩
    · rw [h0] at hl1; simp at hl1
    have C := Lib.hid hcells
    clear hcells
    by_cases hlt : i < k
    · go_wp2_with fail
      refine (times_any g cap l x _ hg C.out HS.out (by omega) hx).mono ?_
      rintro _ w2 ⟨v2, out, rfl, ⟨h1, h2, h3, h4⟩, hO2, hx2⟩
      have HO2 := Lib.hid (ownsN_weak hO2 BB.out.size)
      have BB2 := Lib.hid (BB.out.trans ((ext_iff.1 hx2).mono BB.out.size))
      have HV2 : Hid (limbs out = x ^ (i + 1)) := Lib.hid (by rw [h2, HV.out, Nat.pow_succ])
      have HS2 := Lib.hid h1
      have HL2 : Hid (1 ≤ out.length ∧ out.length ≤ 1 + 3 * (i + 1)) := Lib.hid ⟨by omega, by omega⟩
      clear hO2 hx2 h1 h2 HO BB HV HS HL C
      go_wp2_with fail
      go_roundw
      case rel => exact ⟨i + 1, out, by go_num, by omega, HS2, HV2, HL2, HO2, BB2⟩
      case measure => simp [intOf]; omega
    · obtain rfl : i = k := by omega
      obtain ⟨i0, hi0, hz0, hz1, hz2⟩ := info_parts info64
      go_wp2_with (first
        | (at_make; refine wpList_make_full _ rfl (.tmp 19) (.tmp 19) 103 rfl w.heap.size 60 i0 (.int .u64 0) 1 Tryz.underlying103 hi0 hz0 hz1 .i64 .i64 _ _ (2 * i) rfl rfl (by omega) (by omega) (by rw [hz2]; omega) (by unfold maxLen; omega) BB.out.size ?_; intro w3 hown hg3
           have O3 : Hid (ownsN w3 w.heap.size 60 .u64 (.slice (some ⟨wr.heap.size, 0, none⟩) (2 * i) (2 * i)) (List.replicate (2 * i) 0)) := Lib.hid (by unfold ownsN; rw [List.length_replicate, ← made_nums]; exact hown)
           clear hown)
        | (at_builtin; refine append_num 103 60 .u64 8 Tryz.underlying103 info64 (by decide) p w.heap.size (.slice (some ⟨wr.heap.size, 0, none⟩) (2 * i) (2 * i)) (List.replicate (2 * i) 0) (.tmp 20) (.tmp 22) _ rfl rfl rfl 1 rfl rfl O3.out (by rw [List.length_replicate]; omega) (Nat.le_trans BB.out.size hg3.size) ?_; intro ww w4 hO4 hg4 hat4))
      have hWv : limbs (List.replicate (2 * i) 0 ++ [p]) = p * 2 ^ (32 * i) := by
        rw [limbs_append, limbs_zeros, List.length_replicate, show (65536 : Nat) = 2 ^ 16 from rfl, ← Nat.pow_mul]
        simp only [limbs, Nat.mul_zero, Nat.add_zero, Nat.zero_add]
        rw [Nat.mul_comm, show 16 * (2 * i) = 32 * i by omega]
      have hWs : small (List.replicate (2 * i) 0 ++ [p]) := small_append (small_zeros _) (by intro e he; rw [List.mem_singleton] at he; omega)
      have hWl : (List.replicate (2 * i) 0 ++ [p]).length = 2 * i + 1 := by rw [List.length_append, List.length_replicate, List.length_singleton]
      generalize List.replicate (2 * i) 0 ++ [p] = W at hWv hWs hWl hO4
      have hne : ww.ownBlock ≠ some g := by
        rcases hat4 with e | e
        · rw [e]; simp only [Value.ownBlock, ne_eq, Option.some.injEq]; omega
        · rw [e]; simp only [ne_eq, Option.some.injEq]; have := hg3.size; omega
      have HO4 := Lib.hid (ownsN_kept (ownsN_kept HO.out hg3 (by rintro _ ⟨⟩)) hg4 (by intro k; simp only [Value.ownBlock, ne_eq, Option.some.injEq]; omega))
      have BB4 := Lib.hid ((BB.out.grown hg3 BB.out.size (by rintro _ ⟨⟩)).grown hg4 (Nat.le_trans BB.out.size hg3.size) (by intro k; simp only [Value.ownBlock, Option.some.injEq]; have := BB.out.size; omega))
      have HW4 := Lib.hid hO4
      have HWv := Lib.hid hWv
      have HWs := Lib.hid hWs
      clear hO4 hg3 hg4 hat4 HO BB O3 C hWv hWs hi0 hz0 hz1 hz2
      rcases ownsN_form HW4.out with ⟨_, h0⟩ | ⟨gw, cw, rfl, -, -, -, -, -⟩
      · rw [h0] at hWl; simp at hWl
      have HNE : Hid ((Value.slice (some ⟨g, 0, none⟩) l.length cap).ownBlock ≠ some gw) := Lib.hid (by
        simp only [Value.ownBlock] at hne ⊢; exact fun e => hne e.symm)
      rw [hWl] at HW4 ⊢
      clear hne
      generalize (Value.slice (some ⟨g, 0, none⟩) l.length cap) = v4 at HO4 HNE ⊢
      go_loopw [7] (fun v wr => ∃ a, (l.length + a ≤ 2 * i + 1 ∨ a = 0) ∧ Hid (ownsN wr w.heap.size 60 .u64 v (l ++ List.replicate a 0)) ∧ Hid (ownsN wr w.heap.size 60 .u64 (.slice (some ⟨gw, 0, none⟩) (2 * i + 1) cw) W) ∧ Hid (v.ownBlock ≠ some gw) ∧ Hid (Below w.heap.size w wr)) (fun v _ => 2 * i + 1 - lenS v)
      case atStart => exact ⟨0, .inr rfl, by simpa using HO4, HW4, HNE, BB4⟩
      case round =>
        clear HO4 HW4 HNE BB4
        obtain ⟨a, ha, HO, HW, HN, BB⟩ := hrel
        have hVl : (l ++ List.replicate a 0).length = l.length + a := by rw [List.length_append, List.length_replicate]
        obtain ⟨pv, cv, rfl⟩ := ownsN_slice HO.out
        rw [hVl] at HO HN ⊢
        by_cases hlt2 : l.length + a < 2 * i + 1
        · go_wp2_with (at_builtin; go_must (refine append_num 103 60 .u64 8 Tryz.underlying103 info64 (by decide) 0 w.heap.size (.slice pv (l.length + a) cv) (l ++ List.replicate a 0) (.tmp 29) (.tmp 30) _ rfl rfl rfl 1 rfl rfl HO.out (by rw [hVl]; omega) BB.out.size ?_); intro v5 w5 hO5 hg5 hat5)
          have hbase := ownsN_base HO.out
          have HW5 := Lib.hid (ownsN_kept HW.out hg5 (by intro k e e2; exact HN.out (by rw [e]; exact e2.symm ▸ rfl)))
          have HN5 : Hid (v5.ownBlock ≠ some gw) := Lib.hid (by
            rcases hat5 with e | e
            · rw [e]; exact HN.out
            · rw [e]; have := ownsN_lt HW.out gw rfl; simp only [ne_eq, Option.some.injEq]; omega)
          have BB5 := Lib.hid (BB.out.grown hg5 BB.out.size (fun g e => hbase g e))
          have HO5 : Hid (ownsN w5 w.heap.size 60 .u64 v5 (l ++ List.replicate (a + 1) 0)) := Lib.hid (by rw [List.replicate_succ', ← List.append_assoc]; exact hO5)
          obtain ⟨pv5, cv5, rfl⟩ := ownsN_slice hO5
          have hl5 : (l ++ List.replicate a 0 ++ [0]).length = l.length + (a + 1) := by rw [List.length_append, hVl, List.length_singleton]; omega
          rw [hl5] at HO5 HN5 ⊢
          clear hO5 hg5 hat5 HO HW HN BB hbase
          go_wp2_with fail
          go_roundw
          case rel => exact ⟨a + 1, .inl (by omega), HO5, HW5, HN5, BB5⟩
          case measure => simp [lenS]; omega
        · have hLb : l.length + a ≤ 100 := by omega
          have hVs : small (l ++ List.replicate a 0) := small_append HS.out (small_zeros _)
          have hVv : limbs (l ++ List.replicate a 0) = x ^ i := by rw [limbs_pad]; exact HV.out
          rcases ownsN_form HO.out with ⟨_, h0⟩ | ⟨gv, cv', hv, -, -, -, -, -⟩
          · rw [h0] at hVl; simp at hVl; omega
          obtain ⟨rfl, rfl⟩ : pv = some ⟨gv, 0, none⟩ ∧ cv = cv' := by injection hv with e1 e2 e3; exact ⟨e1, e3⟩
          generalize l ++ List.replicate a 0 = V at hVl hVs hVv HO
          generalize hL : l.length + a = L at HO HN hlt2 hLb hVl ⊢
          have HVs := Lib.hid hVs
          have HVv := Lib.hid hVv
          have HVl := Lib.hid hVl
          clear hVs hVv hVl hv ha hL HL hl1 hl2
          have HN2 : Hid ((Value.slice (some ⟨gw, 0, none⟩) (2 * i + 1) cw).ownBlock ≠ some gv) := Lib.hid (by
            have := HN.out
            simp only [Value.ownBlock, ne_eq, Option.some.injEq] at this ⊢
            exact fun e => this e.symm)
          clear HN
          go_wp2_with fail
          generalize (Value.slice (some ⟨gw, 0, none⟩) (2 * i + 1) cw) = ww at HW HN2 ⊢
          go_loopw [8] (fun v wr => ∃ b, (2 * i + 1 + b ≤ L ∨ b = 0) ∧ Hid (ownsN wr w.heap.size 60 .u64 v (W ++ List.replicate b 0)) ∧ Hid (ownsN wr w.heap.size 60 .u64 (.slice (some ⟨gv, 0, none⟩) L cv) V) ∧ Hid (v.ownBlock ≠ some gv) ∧ Hid (Below w.heap.size w wr)) (fun v _ => L - lenS v)
          case atStart => exact ⟨0, .inr rfl, by simpa using HW, HO, HN2, BB⟩
          case round =>
            clear HO HW HN2 BB
            obtain ⟨b, hb, HW, HO, HN, BB⟩ := hrel
            have hWbl : (W ++ List.replicate b 0).length = 2 * i + 1 + b := by rw [List.length_append, List.length_replicate, hWl]
            obtain ⟨pw, cw2, rfl⟩ := ownsN_slice HW.out
            rw [hWbl] at HW HN ⊢
            by_cases hlt3 : 2 * i + 1 + b < L
            · go_wp2_with (at_builtin; go_must (refine append_num 103 60 .u64 8 Tryz.underlying103 info64 (by decide) 0 w.heap.size (.slice pw (2 * i + 1 + b) cw2) (W ++ List.replicate b 0) (.tmp 37) (.tmp 38) _ rfl rfl rfl 1 rfl rfl HW.out (by rw [hWbl]; omega) BB.out.size ?_); intro v5 w5 hO5 hg5 hat5)
              have hbase := ownsN_base HW.out
              have HO5 := Lib.hid (ownsN_kept HO.out hg5 (by intro k e e2; exact HN.out (by rw [e]; exact e2.symm ▸ rfl)))
              have HN5 : Hid (v5.ownBlock ≠ some gv) := Lib.hid (by
                rcases hat5 with e | e
                · rw [e]; exact HN.out
                · rw [e]; have := ownsN_lt HO.out gv rfl; simp only [ne_eq, Option.some.injEq]; omega)
              have BB5 := Lib.hid (BB.out.grown hg5 BB.out.size (fun g e => hbase g e))
              have HW5 : Hid (ownsN w5 w.heap.size 60 .u64 v5 (W ++ List.replicate (b + 1) 0)) := Lib.hid (by rw [List.replicate_succ', ← List.append_assoc]; exact hO5)
              obtain ⟨pv5, cv5, rfl⟩ := ownsN_slice hO5
              have hl5 : (W ++ List.replicate b 0 ++ [0]).length = 2 * i + 1 + (b + 1) := by rw [List.length_append, hWbl, List.length_singleton]; omega
              rw [hl5] at HW5 HN5 ⊢
              clear hO5 hg5 hat5 HO HW HN BB hbase
              go_wp2_with fail
              go_roundw
              case rel => exact ⟨b + 1, .inl (by omega), HW5, HO5, HN5, BB5⟩
              case measure => simp [lenS]; omega
            · obtain rfl : L = 2 * i + 1 + b := by omega
              have hs2 : small (W ++ List.replicate b 0) := small_append HWs.out (small_zeros _)
              have hv2 : limbs (W ++ List.replicate b 0) = p * 2 ^ (32 * i) := by rw [limbs_pad]; exact HWv.out
              rcases ownsN_form HW.out with ⟨_, h0⟩ | ⟨gw2, cw3, hv, -, hgw2, -, -, hcw⟩
              · rw [h0, List.length_nil] at hWbl; omega
              obtain ⟨rfl, rfl⟩ : pw = some ⟨gw2, 0, none⟩ ∧ cw2 = cw3 := by injection hv with e1 e2 e3; exact ⟨e1, e3⟩
              rcases ownsN_form HO.out with ⟨_, h0⟩ | ⟨gv2, cv3, hv3, -, hgv2, -, -, hcv⟩
              · have := HVl.out; rw [h0, List.length_nil] at this; omega
              obtain rfl : gv = gv2 := by injection hv3 with e1 e2 e3; injection e1 with e1; injection e1
              generalize W ++ List.replicate b 0 = U at hs2 hv2 hWbl hcw
              generalize 2 * i + 1 + b = N at *
              have CV : Hid (∀ j (h : j < V.length), wr.cell? ⟨gv, j, none⟩ = some (.int .u64 (V[j] : Nat))) := Lib.hid hcv
              have CU : Hid (∀ j (h : j < U.length), wr.cell? ⟨gw2, j, none⟩ = some (.int .u64 (U[j] : Nat))) := Lib.hid hcw
              have HUs := Lib.hid hs2
              have HUv := Lib.hid hv2
              have HUl := Lib.hid hWbl
              clear hs2 hv2 hWbl hcv hcw hv hv3 HW HO HN hb hWl HWv HWs
              obtain ⟨wq, rfl⟩ : ∃ wq, wq = wr := ⟨wr, rfl⟩
              go_wp2_with fail
              go_loopw [9] (fun iv w6 => ∃ j : Nat, iv = .int .i64 ((j : Int) - 1) ∧ j ≤ N ∧ Hid (V.drop j = U.drop j) ∧ Hid (∃ x, w6 = ext wq x)) (fun iv _ => (intOf iv + 1).toNat)
              case atStart => exact ⟨N, rfl, Nat.le_refl _, Lib.hid (by rw [List.drop_of_length_le (by rw [HVl.out]; exact Nat.le_refl _), List.drop_of_length_le (by rw [HUl.out]; exact Nat.le_refl _)]), Lib.hid (ext_refl _)⟩
              case round =>
                obtain ⟨j, rfl, hjN, HE, HX⟩ := hrel
                cases j with
                | zero =>
                  rw [show (((0 : Nat) : Int) - 1) = -1 from rfl]
                  go_wp2_with fail
                  go_ret
                  refine ⟨?_, ext_trans (ext_of BB.out) HX.out⟩
                  have e : V = U := HE.out
                  have e2 : ¬ p * 2 ^ (32 * i) < x ^ i := by rw [← HVv.out, ← HUv.out, e]; exact Nat.lt_irrefl _
                  rw [decide_eq_false e2]; rfl
                | succ m =>
                  rw [show (((m + 1 : Nat) : Int) - 1) = (m : Int) by omega]
                  have hm1 : m < V.length := by rw [HVl.out]; omega
                  have hm2 : m < U.length := by rw [HUl.out]; omega
                  have c1 := CV.out m hm1
                  have c2 := CU.out m hm2
                  have hdrop : V.drop m = V[m] :: V.drop (m + 1) := by rw [List.getElem_cons_drop]
                  have hdrop2 : U.drop m = U[m] :: U.drop (m + 1) := by rw [List.getElem_cons_drop]
                  have hlt12 : V[m] < U[m] → x ^ i < p * 2 ^ (32 * i) := fun h => by
                    rw [← HVv.out, ← HUv.out]; exact limbs_part HVs.out (by rw [HVl.out, HUl.out]) hm1 HE.out h
                  have hlt21 : U[m] < V[m] → p * 2 ^ (32 * i) < x ^ i := fun h => by
                    rw [← HVv.out, ← HUv.out]; exact limbs_part HUs.out (by rw [HVl.out, HUl.out]) hm2 HE.out.symm h
                  generalize V[m] = d1 at c1 hdrop hlt12 hlt21
                  generalize U[m] = d2 at c2 hdrop2 hlt12 hlt21
                  have H12 := Lib.hid hlt12
                  have H21 := Lib.hid hlt21
                  have HD1 := Lib.hid hdrop
                  have HD2 := Lib.hid hdrop2
                  have k1 : wr.cell? ⟨gv, m, none⟩ = some (.int .u64 (d1 : Nat)) := by
                    rw [cell_in, (ext_iff.1 HX.out).block _ hgv2, ← cell_in]; exact c1
                  have k2 : wr.cell? ⟨gw2, m, none⟩ = some (.int .u64 (d2 : Nat)) := by
                    rw [cell_in, (ext_iff.1 HX.out).block _ hgw2, ← cell_in]; exact c2
                  have hq1 := Nat.lt_of_lt_of_le hgv2 (ext_iff.1 HX.out).size
                  have hq2 := Nat.lt_of_lt_of_le hgw2 (ext_iff.1 HX.out).size
                  clear hlt12 hlt21 hdrop hdrop2 hm1 hm2 c1 c2
                  by_cases hd : d1 = d2
                  · subst hd
                    go_wp2_with fail
                    refine wp_region_ext (by kernel_rfl) (by kernel_rfl) ?_
                    repeat (go_big_quiet_step (fail))
                    refine wpQuiet_nil ?_
                    rintro _ ⟨x1, rfl⟩
                    go_wp2_with fail
                    go_roundw
                    case rel => exact ⟨m, by go_num, by omega, Lib.hid (by rw [HD1.out, HD2.out, HE.out]), Lib.hid (ext_trans HX.out ⟨x1, rfl⟩)⟩
                    case measure => simp [intOf]
                  · have hne : ((d1 : Int) != (d2 : Int)) = true := by rw [bne_iff_ne]; omega
                    have HDne := Lib.hid hd
                    clear hd
                    go_wp2_with fail
                    refine wp_region_ext (by kernel_rfl) (by kernel_rfl) ?_
                    repeat (go_big_quiet_step (fail))
                    refine wpQuiet_nil ?_
                    rintro _ ⟨x1, rfl⟩
                    go_wp2_with fail
                    refine wp_region_ext (by kernel_rfl) (by kernel_rfl) ?_
                    repeat (go_big_quiet_step (fail))
                    refine wpQuiet_nil ?_
                    rintro _ ⟨x2, rfl⟩
                    go_wp2_with fail
                    go_ret
                    refine ⟨?_, ext_trans (ext_trans (ext_trans (ext_of BB.out) HX.out) ⟨x1, rfl⟩) ⟨x2, rfl⟩⟩
                    have e : decide (p * 2 ^ (32 * i) < x ^ i) = decide (d2 < d1) := by
                      by_cases h : d2 < d1
                      · rw [decide_eq_true h, decide_eq_true (H21.out h)]
                      · rw [decide_eq_false h, decide_eq_false (Nat.lt_asymm (H12.out (Nat.lt_of_le_of_ne (Nat.le_of_not_lt h) HDne.out)))]
                    rw [e]; rfl

set_option maxRecDepth 100000 in
set_option maxHeartbeats 2000000 in
theorem root_any (p k : Nat) (w : World) (hk2 : 2 ≤ k) (hk3 : k ≤ 3) (hp : p < 65536) :
    Calls Tryz.prog 21 #[.int .u64 (p : Nat), .int .i64 (k : Nat)] w fun r w' => (∃ n, isRoot p k n ∧ r = .returned (.int .u32 (val (BitVec.ofNat 32 n)))) ∧ ∃ x, w' = ext w x := by
  go_enter Tryz.func21, Tryz.ntmps21
  go_wp2_with fail
  go_loopw [5, 6] (fun lv hv wr => ∃ low high : Nat, lv = .int .u64 (low : Nat) ∧ hv = .int .u64 (high : Nat) ∧ low < high ∧ high ≤ 1099511627776 ∧ Hid (low ^ k ≤ p * 2 ^ (32 * k)) ∧ Hid (p * 2 ^ (32 * k) < high ^ k) ∧ Hid (∃ x, wr = ext w x)) (fun lv hv _ => (intOf hv - intOf lv).toNat)
  case atStart =>
    refine ⟨0, 1099511627776, rfl, rfl, by omega, Nat.le_refl _, Lib.hid ?_, Lib.hid ?_, Lib.hid (ext_refl _)⟩
    · rw [Nat.zero_pow (by omega)]; exact Nat.zero_le _
    · rw [show (1099511627776 : Nat) = 2 ^ 40 from rfl, ← Nat.pow_mul, show 40 * k = 8 * k + 32 * k by omega, Nat.pow_add]
      refine Nat.mul_lt_mul_of_pos_right (Nat.lt_of_lt_of_le hp ?_) (Nat.pow_pos (by omega))
      rw [show (65536 : Nat) = 2 ^ 16 from rfl]
      exact Nat.pow_le_pow_right (by omega) (by omega)
  case round =>
    obtain ⟨low, high, rfl, rfl, hlh, hh, HL, HH, HX⟩ := hrel
    by_cases hlt : low + 1 < high
    · have hm1 : (low + high) / 2 ≤ 1099511627776 := by omega
      have hmv : Hid (((low : Int) + high) / 2 = (((low + high) / 2 : Nat) : Int)) := Lib.hid (by omega)
      go_wp2_with fail
      rw [hmv.out]
      by_cases hA : p * 2 ^ (32 * k) < ((low + high) / 2) ^ k
      · have HA := Lib.hid hA
        refine (above_any ((low + high) / 2) k p _ hk2 hk3 hm1 hp).mono ?_
        rintro _ w2 ⟨rfl, hx2⟩
        rw [decide_eq_true hA]
        have HX2 := Lib.hid (ext_trans HX.out hx2)
        clear hA hx2
        go_wp2_with fail
        go_roundw
        case rel => exact ⟨low, (low + high) / 2, rfl, rfl, by omega, by omega, HL, HA, HX2⟩
        case measure => simp [intOf]; omega
      · have HA := Lib.hid (Nat.le_of_not_lt hA)
        refine (above_any ((low + high) / 2) k p _ hk2 hk3 hm1 hp).mono ?_
        rintro _ w2 ⟨rfl, hx2⟩
        rw [decide_eq_false hA]
        have HX2 := Lib.hid (ext_trans HX.out hx2)
        clear hA hx2
        go_wp2_with fail
        go_roundw
        case rel => exact ⟨(low + high) / 2, high, rfl, rfl, by omega, by omega, HA, HH, HX2⟩
        case measure => simp [intOf]; omega
    · obtain rfl : high = low + 1 := by omega
      go_wp2_with fail
      go_ret
      exact ⟨⟨low, ⟨HL.out, HH.out⟩, by unfold val; rw [BitVec.toNat_ofNat]; rfl⟩, HX.out⟩
end Go.Proofs.YtnmpchojhbmbmaaGreatDoor
