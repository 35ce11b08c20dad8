/- The document's records as bytes: RightRecord, RecordMark, Write, the first one of a text, ParseRecord (the walks). -/
import Derived.Test.YtjjadgcpmfmlfaaDoorProg
import Derived.Shelf.Strings.Split
import Derived.Shelf.Strings.Prefix
import Derived.Test.YtjjadgcpmfmlfaaDoorRefMark
import Derived.Test.YtjjadgcpmfmlfaaDoorRefEv
import Derived.Test.YtjjadgcpmfmlfaaDoorWrite
import Derived.Test.YtjjadgcpmfmlfaaDoorParseL
import Derived.Test.YtjjadgcpmfmlfaaDoorParse
namespace Go.Proofs
open Go.Shelf
def Tryd.lays99_ren : Go.Shelf.Ren := ⟨fun | 99 => 95 | 206 => 115 | n => n, fun | 9 => 9 | 4 => 4 | 3 => 3 | n => n, fun | n => n⟩
theorem Tryd.lays99 : Go.Proofs.Lays.n99 Tryd.prog Tryd.lays99_ren := {
  mixed := by kernel_rfl
  f99 := Tryd.func95.trans (congrArg some (by kernel_rfl))
  f206 := Tryd.func115.trans (congrArg some (by kernel_rfl))
  t3 := Tryd.underlying3
  a3 := Tryd.isAgg3
  z3 := Tryd.sizeOf3
  v3 := Tryd.zeroValue3
  t4 := Tryd.underlying4
  a4 := Tryd.isAgg4
  z4 := Tryd.sizeOf4
  v4 := Tryd.zeroValue4
  t9 := Tryd.underlying9
  a9 := Tryd.isAgg9
  z9 := Tryd.sizeOf9
  v9 := Tryd.zeroValue9 }
open Go.RowKit Go.Lib in
/-- strings.HasPrefix: "HasPrefix reports whether the string s begins with prefix.": IT RETURNS 'Lib.hasPrefix s prefix'; the world is as it was. (LAID: no walk: one application.) -/
theorem Tryd.strings_HasPrefix (s p : ByteArray) (w : World) :
    Calls Tryd.prog 95 #[.string s, .string p] w fun e w' => e = .returned (.bool (Lib.hasPrefix s.data.toList p.data.toList)) ∧ w' = w := Any.strings_HasPrefix Tryd.lays99 s p w
def Tryd.lays146_ren : Go.Shelf.Ren := ⟨fun | 146 => 94 | 221 => 113 | 268 => 133 | 138 => 134 | 143 => 135 | 195 => 160 | 197 => 157 | 218 => 161 | 219 => 162 | 260 => 173 | 217 => 125 | 225 => 176 | 224 => 177 | 267 => 178 | 266 => 155 | 314 => 181 | n => n, fun | 9 => 9 | 31 => 34 | 3 => 3 | 4 => 4 | 0 => 0 | 105 => 212 | 21 => 21 | 5 => 5 | 46 => 106 | 119 => 240 | 139 => 243 | 138 => 242 | 146 => 244 | 51 => 98 | n => n, fun | 1 => 4 | 3 => 7 | 4 => 8 | n => n⟩
theorem Tryd.lays146 : Go.Proofs.Lays.n146 Tryd.prog Tryd.lays146_ren := {
  mixed := by kernel_rfl
  f138 := Tryd.func134.trans (congrArg some (by kernel_rfl))
  f143 := Tryd.func135.trans (congrArg some (by kernel_rfl))
  f146 := Tryd.func94.trans (congrArg some (by kernel_rfl))
  f195 := Tryd.func160.trans (congrArg some (by kernel_rfl))
  f197 := Tryd.func157.trans (congrArg some (by kernel_rfl))
  f217 := Tryd.func125.trans (congrArg some (by kernel_rfl))
  f218 := Tryd.func161.trans (congrArg some (by kernel_rfl))
  f219 := Tryd.func162.trans (congrArg some (by kernel_rfl))
  f221 := Tryd.func113.trans (congrArg some (by kernel_rfl))
  f224 := Tryd.func177.trans (congrArg some (by kernel_rfl))
  f225 := Tryd.func176.trans (congrArg some (by kernel_rfl))
  f260 := Tryd.func173.trans (congrArg some (by kernel_rfl))
  f266 := Tryd.func155.trans (congrArg some (by kernel_rfl))
  f267 := Tryd.func178.trans (congrArg some (by kernel_rfl))
  f268 := Tryd.func133.trans (congrArg some (by kernel_rfl))
  f314 := Tryd.func181.trans (congrArg some (by kernel_rfl))
  t0 := Tryd.underlying0
  a0 := Tryd.isAgg0
  z0 := Tryd.sizeOf0
  v0 := Tryd.zeroValue0
  t3 := Tryd.underlying3
  a3 := Tryd.isAgg3
  z3 := Tryd.sizeOf3
  v3 := Tryd.zeroValue3
  t4 := Tryd.underlying4
  a4 := Tryd.isAgg4
  z4 := Tryd.sizeOf4
  v4 := Tryd.zeroValue4
  t5 := Tryd.underlying5
  a5 := Tryd.isAgg5
  z5 := Tryd.sizeOf5
  v5 := Tryd.zeroValue5
  t9 := Tryd.underlying9
  a9 := Tryd.isAgg9
  z9 := Tryd.sizeOf9
  v9 := Tryd.zeroValue9
  t21 := Tryd.underlying21
  a21 := Tryd.isAgg21
  z21 := Tryd.sizeOf21
  v21 := Tryd.zeroValue21
  t31 := Tryd.underlying34
  a31 := Tryd.isAgg34
  z31 := Tryd.sizeOf34
  v31 := Tryd.zeroValue34
  t46 := Tryd.underlying106
  a46 := Tryd.isAgg106
  z46 := Tryd.sizeOf106
  v46 := Tryd.zeroValue106
  t51 := Tryd.underlying98
  a51 := Tryd.isAgg98
  z51 := Tryd.sizeOf98
  v51 := Tryd.zeroValue98
  t105 := Tryd.underlying212
  a105 := Tryd.isAgg212
  z105 := Tryd.sizeOf212
  v105 := Tryd.zeroValue212
  t119 := Tryd.underlying240
  a119 := Tryd.isAgg240
  z119 := Tryd.sizeOf240
  t138 := Tryd.underlying242
  a138 := Tryd.isAgg242
  z138 := Tryd.sizeOf242
  v138 := Tryd.zeroValue242
  t139 := Tryd.underlying243
  a139 := Tryd.isAgg243
  z139 := Tryd.sizeOf243
  v139 := Tryd.zeroValue243
  t146 := Tryd.underlying244
  a146 := Tryd.isAgg244
  z146 := Tryd.sizeOf244
  v146 := Tryd.zeroValue244
  g1 := by kernel_rfl
  g3 := by kernel_rfl
  g4 := by kernel_rfl }
open Go.RowKit Go.Lib in
/-- strings.Split. (LAID: no walk: one application.) -/
theorem Tryd.strings_Split (s sep : ByteArray) (m : Int) (w : World) (hs : s.size < 4294967281) (hm : w.cell? ⟨4, 0, none⟩ = some (.int .i64 m)) (h1 : 1 ≤ sep.size) :
    Calls Tryd.prog 94 #[.string s, .string sep] w fun e w' =>
      e = .returned (.slice (some ⟨w.heap.size, 0, none⟩) (Lib.countB s sep + 1) (Lib.countB s sep + 1)) ∧ w' = w.alloc (.cells ((Lib.splitB sep 0 (Lib.countB s sep) s).map Value.string).toArray 9) := Any.strings_Split Tryd.lays146 (by kernel_rfl) s sep m w hs hm h1
end Go.Proofs
namespace Go.Proofs.YtjjadgcpmfmlfaaDoor
open Go.RowKit

set_option maxRecDepth 100000 in
theorem rin_any (n lo hi : Int) (w : World) : Calls Tryd.prog 70 #[.int .i64 n, .int .i64 lo, .int .i64 hi] w fun r w' => r = .returned (.bool (decide (lo ≤ n) && decide (n ≤ hi))) ∧ w = w' := by
  go_enter Tryd.func70, Tryd.ntmps70
  cases h1 : decide (lo ≤ n) <;> cases h2 : decide (n ≤ hi)
  all_goals
    go_wp2_with fail
    go_ret
    exact ⟨rfl, rfl⟩
set_option maxRecDepth 100000 in
set_option maxHeartbeats 1000000 in
theorem rrec_any (r : Rec) (w : World) (hs : r.subject.size ≤ 1048576) :
    Calls Tryd.prog 43 #[.agg (recV r)] w (Res (fitB r) w) := by
  obtain ⟨q, s, g, p, b⟩ := r
  have HF : Hid (fitB ⟨q, s, g, p, b⟩ = ((decide ((1 : Int) ≤ q) && decide (q ≤ 100)) && (nameB s.data.toList && ((decide ((0 : Int) ≤ g) && decide (g ≤ 100)) && (decide ((p.size : Int) = 16) && decide ((b.size : Int) ≤ 416)))))) := Lib.hid (by unfold fitB; simp only [Bool.and_assoc])
  unfold recV
  dsimp only at hs ⊢
  have NA := fun w => rname_any s w hs
  have I1 := fun w => rin_any q 1 100 w
  have I2 := fun w => rin_any g 0 100 w
  generalize nameB s.data.toList = nb at NA HF
  generalize (decide ((1 : Int) ≤ q) && decide (q ≤ 100)) = c1 at I1 HF
  generalize (decide ((0 : Int) ≤ g) && decide (g ≤ 100)) = c2 at I2 HF
  generalize fitB ⟨q, s, g, p, b⟩ = F at HF ⊢
  go_enter Tryd.func43, Tryd.ntmps43
  go_wp2_with fail
  have H1 := heap_alloc_at w (.cells #[.int .i64 q, .string s, .int .i64 g, .string p, .string b] 45)
  have X1 := Lib.hid (ext_alloc (.cells #[.int .i64 q, .string s, .int .i64 g, .string p, .string b] 45) (ext_refl w))
  generalize w.alloc (.cells #[.int .i64 q, .string s, .int .i64 g, .string p, .string b] 45) = w1 at H1 X1 ⊢
  obtain ⟨d0, d1, d2, d3, d4⟩ := rec_cells (r := ⟨q, s, g, p, b⟩) H1
  dsimp only at d0 d1 d2 d3 d4
  clear H1
  refine (I1 _).mono ?_
  rintro _ _ ⟨rfl, rfl⟩
  clear I1
  cases c1 with
  | false =>
    go_wp2_with fail
    go_ret
    exact ⟨by rw [HF.out]; rfl, X1.out⟩
  | true =>
    go_wp2_with fail
    refine (NA _).mono ?_
    rintro _ _ ⟨rfl, rfl⟩
    clear NA
    cases nb with
    | false =>
      go_wp2_with fail
      go_ret
      exact ⟨by rw [HF.out]; rfl, X1.out⟩
    | true =>
      go_wp2_with fail
      refine (I2 _).mono ?_
      rintro _ _ ⟨rfl, rfl⟩
      clear I2
      cases c2 with
      | false =>
        go_wp2_with fail
        go_ret
        exact ⟨by rw [HF.out]; rfl, X1.out⟩
      | true =>
        have HF := HF.out
        by_cases h4 : (p.size : Int) = 16 <;> by_cases h5 : (b.size : Int) ≤ 416
        all_goals
          simp only [h4, h5, decide_true, decide_false, Bool.and_true, Bool.and_false] at HF
          subst HF
          go_wp2_with fail
          go_ret
          exact ⟨by first | rfl | simp [h5], X1.out⟩
set_option maxRecDepth 100000 in
theorem byte_str (n : Int) (w : World) : Calls Tryd.prog 89 #[.int .i64 n] w fun r w' => r = .returned (.string ⟨#[byN n]⟩) ∧ ∃ x, w' = ext w x := by
  have hv := byN_val n
  have hcv : (convert 101 9 (.slice (some ⟨w.heap.size, 0, none⟩) 1 1)).run Tryd.prog (w.alloc (.cells #[.int .u8 (n % 256)] 5)) = .ok (.string ⟨#[byN n]⟩) (w.alloc (.cells #[.int .u8 (n % 256)] 5)) :=
    string_of_cells (l := [byN n]) (by rw [heap_alloc_at]; simp only [List.map_cons, List.map_nil, hv])
  have X1 := Lib.hid (ext_alloc (.cells #[.int .u8 (n % 256)] 5) (ext_refl w))
  clear hv
  go_enter Tryd.func89, Tryd.ntmps89
  go_wp2_with fail
  go_ret
  exact ⟨rfl, X1.out⟩
set_option maxRecDepth 100000 in
set_option maxHeartbeats 1000000 in
theorem rrmark_any (rb : Nat) (r : Rec) (w : World) (hs : r.subject.size + r.prev.size + r.body.size ≤ 140737488350000) (hR : isR w rb) :
    Calls Tryd.prog 90 #[.pointer (some ⟨rb, 0, none⟩), .agg (recV r)] w fun e w' => e = .returned (.string ⟨(mkB r).toArray⟩) ∧ ∃ x, w' = ext w x := by
  have R := Lib.hid hR
  clear hR
  have HM : Hid (mkB r = markB 114 [seqS r.seq, r.subject, seqS r.gen, r.prev, r.body]) := Lib.hid rfl
  have hlen : (markMsg 114 [seqS r.seq, r.subject, seqS r.gen, r.prev, r.body]).length ≤ 140737488355000 := by
    rw [msg5]
    have h8 : ∀ n, (seqS n).size = 8 := fun n => by show (numB n).toArray.size = 8; rw [List.size_toArray]; exact numTo_length _ _
    rw [h8, h8]; omega
  generalize mkB r = M at HM
  obtain ⟨q, s, g, p, b⟩ := r
  unfold recV
  dsimp only at HM hlen ⊢
  go_enter Tryd.func90, Tryd.ntmps90
  go_wp2_with fail
  have H1 := Lib.hid (heap_alloc_at w (.cells #[.int .i64 q, .string s, .int .i64 g, .string p, .string b] 45))
  have X1 := Lib.hid (ext_alloc (.cells #[.int .i64 q, .string s, .int .i64 g, .string p, .string b] 45) (ext_refl w))
  generalize w.alloc (.cells #[.int .i64 q, .string s, .int .i64 g, .string p, .string b] 45) = w1 at H1 X1 ⊢
  obtain ⟨c0, c1, c2, c3, c4⟩ := rec_cells (r := ⟨q, s, g, p, b⟩) H1.out
  dsimp only at c0 c1 c2 c3 c4
  have lw := lt_of_heap H1.out
  refine wp_region_ftail 1 13 (by kernel_rfl) (by kernel_rfl) (fun _ _ _ _ _ h => h) ?_
  simp only [List.take_succ_cons, List.take_zero, List.drop_succ_cons, List.drop_zero]
  repeat (go_big_quiet_step ((go_at_call 25; refine (rnum_any _ _).mono ?_; rintro _ _ ⟨rfl, hx⟩; exact ⟨rfl, ext_trans ⟨_, rfl⟩ hx⟩)))
  refine wpQuiet_nil ?_
  rintro _ ⟨x, rfl⟩
  have X2 := Lib.hid (ext_trans X1.out ⟨x, rfl⟩)
  generalize ext w1 x = w2 at X2 ⊢
  clear H1 X1 c0 c1 c2 c3 c4 lw
  have hT := texts5 w2 (seqS q) s (seqS g) p b 9
  have X3 := Lib.hid (ext_alloc (.cells #[.string (seqS q), .string s, .string (seqS g), .string p, .string b] 9) X2.out)
  have R3 := isR_ext R.out X3.out
  unfold seqS at hT X3 R3 hlen HM
  go_wp2_with fail
  refine (rmark_any rb 114 114 rfl _ _ 5 rfl 5 _ hT hlen R3).mono ?_
  rintro _ w4 ⟨rfl, hx⟩
  have X4 := Lib.hid (ext_trans X3.out hx)
  clear hx hT X3 R3 X2
  rw [← HM.out]
  go_wp2_with fail
  go_ret
  exact ⟨rfl, X4.out⟩
set_option maxRecDepth 100000 in
set_option maxHeartbeats 4000000 in
theorem rwrite_any (rb : Nat) (r : Rec) (w : World) (hs : r.subject.size ≤ 1048576 ∧ r.prev.size ≤ 1048576 ∧ r.body.size ≤ 1048576) (hR : isR w rb) :
    Calls Tryd.prog 42 #[.pointer (some ⟨rb, 0, none⟩), .agg (recV r)] w fun e w' => e = .returned (if fitB r = true then .tuple #[.string ⟨(writeL mkB r).toArray⟩, .int .i64 0] else .tuple #[.string ⟨#[]⟩, .int .i64 1]) ∧ ∃ x, w' = ext w x := by
  have R := Lib.hid hR
  clear hR
  have WR := fun w => rrec_any r w hs.1
  have FM := fun w h => rrmark_any rb r w (by omega) h
  cases hf : fitB r with
  | false =>
    rw [hf] at WR
    simp only [Bool.false_eq_true, if_false]
    obtain ⟨q, s, g, p, b⟩ := r
    unfold recV at WR ⊢
    dsimp only at WR ⊢
    go_enter Tryd.func42, Tryd.ntmps42
    go_wp2_with fail
    refine (WR _).mono ?_
    rintro _ w2 ⟨rfl, hx⟩
    have X2 := Lib.hid (ext_trans (ext_alloc _ (ext_refl w)) hx)
    clear hx
    go_wp2_with fail
    go_ret2
    exact ⟨rfl, X2.out⟩
  | true =>
    rw [hf] at WR
    simp only [if_true]
    have HF := Lib.hid (fits_of hf)
    clear hf
    obtain ⟨q, s, g, p, b⟩ := r
    have HT : Hid (writeL mkB ⟨q, s, g, p, b⟩ = mkB ⟨q, s, g, p, b⟩ ++ ([byN q, byN (s.size : Nat)] ++ (bs s ++ ([byN g] ++ (bs p ++ ([byN ((b.size : Int) / 256), byN (b.size : Nat)] ++ bs b)))))) := Lib.hid rfl
    have hM := mkB_length ⟨q, s, g, p, b⟩
    generalize writeL mkB ⟨q, s, g, p, b⟩ = T at HT
    generalize mkB ⟨q, s, g, p, b⟩ = M at HT hM FM
    unfold recV at WR FM ⊢
    dsimp only at WR FM hs ⊢
    have hF := HF.out
    unfold fits at hF
    dsimp only at hF
    obtain ⟨f1, f2, f3, f4, f5, f6, f7, f8⟩ := hF
    go_enter Tryd.func42, Tryd.ntmps42
    go_wp2_with fail
    have H1 := Lib.hid (heap_alloc_at w (.cells #[.int .i64 q, .string s, .int .i64 g, .string p, .string b] 45))
    have X1 := Lib.hid (ext_alloc (.cells #[.int .i64 q, .string s, .int .i64 g, .string p, .string b] 45) (ext_refl w))
    generalize w.alloc (.cells #[.int .i64 q, .string s, .int .i64 g, .string p, .string b] 45) = w1 at H1 X1 ⊢
    refine (WR _).mono ?_
    rintro _ w2 ⟨rfl, hx⟩
    have H2 := Lib.hid (((ext_iff.1 hx).block _ (lt_of_heap H1.out)).trans H1.out)
    have X2 := Lib.hid (ext_trans X1.out hx)
    clear hx H1 X1 WR
    obtain ⟨c0, c1, c2, c3, c4⟩ := rec_cells (r := ⟨q, s, g, p, b⟩) H2.out
    dsimp only at c0 c1 c2 c3 c4
    have lw := lt_of_heap H2.out
    have R2 := Lib.hid (isR_ext R.out X2.out)
    go_wp2_with fail
    refine wp_region_ext (by kernel_rfl) (by kernel_rfl) ?_
    repeat (go_big_quiet_step (first
      | (go_at_call 90; refine (FM _ (isR_ext R2.out ⟨_, rfl⟩)).mono ?_; rintro _ _ ⟨rfl, hx⟩; exact ⟨rfl, ext_trans ⟨_, rfl⟩ hx⟩)
      | (go_at_call 89; refine (byte_str _ _).mono ?_; rintro _ _ ⟨rfl, hx⟩; exact ⟨rfl, ext_trans ⟨_, rfl⟩ hx⟩)))
    refine wpQuiet_nil ?_
    rintro _ ⟨x, rfl⟩
    have X3 := Lib.hid (ext_trans X2.out ⟨x, rfl⟩)
    generalize ext w2 x = w3 at X3 ⊢
    clear H2 X2 c0 c1 c2 c3 c4 lw
    go_wp2_with fail
    go_ret2
    refine ⟨?_, X3.out⟩
    have e256 : byN ((b.size : Int) % 256) = byN (b.size : Nat) := by unfold byN; rw [Int.emod_emod]
    have hS : (⟨M.toArray⟩ : ByteArray) ++ ⟨#[byN q]⟩ ++ ⟨#[byN (s.size : Nat)]⟩ ++ s ++ ⟨#[byN g]⟩ ++ p ++ ⟨#[byN ((b.size : Int) / 256)]⟩ ++ ⟨#[byN ((b.size : Int) % 256)]⟩ ++ b = ⟨T.toArray⟩ := by
      apply bs_inj
      rw [bs_app, bs_app, bs_app, bs_app, bs_app, bs_app, bs_app, bs_app, e256]
      show M ++ [byN q] ++ [byN (s.size : Nat)] ++ bs s ++ [byN g] ++ bs p ++ [byN ((b.size : Int) / 256)] ++ [byN (b.size : Nat)] ++ bs b = T
      rw [HT.out]
      simp only [List.append_assoc, List.cons_append, List.nil_append]
    exact congrArg (fun S => Ending.returned (.tuple #[.string S, .int .i64 0])) hS
end Go.Proofs.YtjjadgcpmfmlfaaDoor
namespace Go.Proofs.YtjjadgcpmfmlfaaDoor

def kOf (s : List UInt8) : Nat := 18 + (s.getD 17 0).toNat
def nOf (s : List UInt8) : Nat := (s.getD (kOf s + 17) 0).toNat * 256 + (s.getD (kOf s + 18) 0).toNat
def recOf (s : List UInt8) : Rec := ⟨((s.getD 16 0).toNat : Nat), mkS ((s.drop 18).take ((s.getD 17 0).toNat)), ((s.getD (kOf s) 0).toNat : Nat), mkS ((s.drop (kOf s + 1)).take 16), mkS ((s.drop (kOf s + 19)).take (nOf s))⟩
def lenOK (s : List UInt8) : Prop := 18 ≤ s.length ∧ kOf s + 19 ≤ s.length ∧ kOf s + 19 + nOf s ≤ s.length
theorem takeL_drop (s : List UInt8) (a n : Nat) (b : Bool) (h : a + n ≤ s.length) : takeL n ⟨s.drop a, b⟩ = ((s.drop a).take n, ⟨s.drop (a + n), b⟩) := by
  unfold takeL
  rw [if_neg (by simp; omega), List.drop_drop]
theorem byteL_drop (s : List UInt8) (a : Nat) (b : Bool) (h : a < s.length) : byteL ⟨s.drop a, b⟩ = ((s.getD a 0).toNat, ⟨s.drop (a + 1), b⟩) := by
  unfold byteL
  rw [takeL_drop s a 1 b h]
  dsimp only
  have e : (s.drop a).take 1 = [s.getD a 0] := by
    rw [List.drop_eq_getElem_cons h, List.getD_eq_getElem?_getD, List.getElem?_eq_getElem h]
    rfl
  rw [e]
theorem oneL_places {s : List UInt8} (h : lenOK s) : oneL ⟨s, false⟩ = (s.take 16, recOf s, ⟨s.drop (kOf s + 19 + nOf s), false⟩) := by
  obtain ⟨h1, h2, h3⟩ := h
  have e0 : takeL 16 ⟨s, false⟩ = (s.take 16, ⟨s.drop 16, false⟩) := by
    have := takeL_drop s 0 16 false (by omega)
    rwa [List.drop_zero, Nat.zero_add] at this
  have hk : kOf s = 18 + (s.getD 17 0).toNat := rfl
  unfold oneL
  dsimp only
  rw [e0]
  dsimp only
  rw [byteL_drop s 16 _ (by omega)]
  dsimp only
  rw [byteL_drop s 17 _ (by omega)]
  dsimp only
  rw [takeL_drop s 18 _ _ (by omega)]
  dsimp only
  rw [← hk, byteL_drop s (kOf s) _ (by omega)]
  dsimp only
  rw [takeL_drop s (kOf s + 1) 16 _ (by omega)]
  dsimp only
  rw [show kOf s + 1 + 16 = kOf s + 17 from rfl, byteL_drop s (kOf s + 17) _ (by omega)]
  dsimp only
  rw [show kOf s + 17 + 1 = kOf s + 18 from rfl, byteL_drop s (kOf s + 18) _ (by omega)]
  dsimp only
  rw [show kOf s + 18 + 1 = kOf s + 19 from rfl]
  have hn : (s.getD (kOf s + 17) 0).toNat * 256 + (s.getD (kOf s + 18) 0).toNat = nOf s := rfl
  rw [hn, takeL_drop s (kOf s + 19) (nOf s) _ (by omega)]
  rfl
theorem getD_at (a : List UInt8) (c : UInt8) (b : List UInt8) (i : Nat) (h : a.length = i) : (a ++ ([c] ++ b)).getD i 0 = c := by
  subst h
  rw [List.getD_eq_getElem?_getD, List.getElem?_append_right (Nat.le_refl _), Nat.sub_self]; rfl
theorem lenOK_of {s : List UInt8} (h : (oneL ⟨s, false⟩).2.2.bad = false) : lenOK s := by
  unfold oneL at h
  dsimp only at h
  obtain ⟨b1, l1, e1⟩ := takeL_good h
  obtain ⟨b2, c2, v2, e2⟩ := byteL_good b1
  obtain ⟨b3, c3, v3, e3⟩ := byteL_good b2
  obtain ⟨b4, l4, e4⟩ := takeL_good b3
  obtain ⟨b5, c5, v5, e5⟩ := byteL_good b4
  obtain ⟨b6, l6, e6⟩ := takeL_good b5
  obtain ⟨b7, c7, v7, e7⟩ := byteL_good b6
  obtain ⟨b8, c8, v8, e8⟩ := byteL_good b7
  obtain ⟨b9, l9, e9⟩ := takeL_good b8
  clear h b1 b2 b3 b4 b5 b6 b7 b8 b9
  generalize takeL 16 ⟨s, false⟩ = m at *
  generalize byteL m.2 = q at *
  generalize byteL q.2 = l at *
  generalize takeL l.1 l.2 = u at *
  generalize byteL u.2 = g at *
  generalize takeL 16 g.2 = p at *
  generalize byteL p.2 = a at *
  generalize byteL a.2 = b at *
  generalize takeL (a.1 * 256 + b.1) b.2 = y at *
  rw [v2, v3] at l1
  rw [v7] at l6
  generalize m.1 = m1 at *
  generalize u.1 = u1 at *
  generalize p.1 = p1 at *
  generalize y.1 = y1 at *
  dsimp only at e9
  rw [e8, e7, e6, e5, e4, e3, e2, e1] at e9
  have g17 : s.getD 17 0 = c7 := by
    rw [e9, ← List.append_assoc]
    exact getD_at _ _ _ _ (by simp; omega)
  have hk : kOf s = 18 + c7.toNat := by unfold kOf; rw [g17]
  have g3 : s.getD (kOf s + 17) 0 = c3 := by
    rw [hk, e9]
    rw [show m1 ++ ([c8] ++ ([c7] ++ (u1 ++ ([c5] ++ (p1 ++ ([c3] ++ ([c2] ++ (y1 ++ y.2.s)))))))) = (m1 ++ [c8] ++ [c7] ++ u1 ++ [c5] ++ p1) ++ ([c3] ++ ([c2] ++ (y1 ++ y.2.s))) by simp only [List.append_assoc]]
    exact getD_at _ _ _ _ (by simp; omega)
  have g2 : s.getD (kOf s + 18) 0 = c2 := by
    rw [hk, e9]
    rw [show m1 ++ ([c8] ++ ([c7] ++ (u1 ++ ([c5] ++ (p1 ++ ([c3] ++ ([c2] ++ (y1 ++ y.2.s)))))))) = (m1 ++ [c8] ++ [c7] ++ u1 ++ [c5] ++ p1 ++ [c3]) ++ ([c2] ++ (y1 ++ y.2.s)) by simp only [List.append_assoc]]
    exact getD_at _ _ _ _ (by simp; omega)
  have hn : nOf s = c3.toNat * 256 + c2.toNat := by unfold nOf; rw [g3, g2]
  have hl := congrArg List.length e9
  simp only [List.length_append, List.length_cons, List.length_nil] at hl
  unfold lenOK
  omega
/-- A record stands at the beginning. -/
theorem okOne_places (s : List UInt8) : okOne ⟨s, false⟩ = true ↔ lenOK s ∧ fitB (recOf s) = true ∧ writeL mkB (recOf s) <+: s := by
  rw [okOne_iff]
  constructor
  · rintro ⟨h1, h2, h3⟩
    have hl := lenOK_of h1
    have hp := oneL_places hl
    have hg := oneL_good (mk := mkB) h1 h3
    rw [hp] at h2 hg
    exact ⟨hl, h2, ⟨_, hg.2.symm⟩⟩
  · rintro ⟨hl, hf, hpre⟩
    have hp := oneL_places hl
    rw [hp]
    refine ⟨rfl, hf, ?_⟩
    have hg := oneL_good (st := ⟨s, false⟩) (mk := fun _ => s.take 16) (by rw [hp]) (by rw [hp])
    rw [hp] at hg
    have hg := hg.2
    dsimp only at hg
    obtain ⟨more, hm⟩ := hpre
    unfold writeL at hg hm
    have hl16 : (s.take 16).length = 16 := by have := hl.1; simp; omega
    have h2 := congrArg (List.take 16) hm
    rw [List.append_assoc, List.take_append, mkB_length, Nat.sub_self, List.take_zero, List.append_nil, List.take_of_length_le (by rw [mkB_length]; omega)] at h2
    exact h2
theorem places_len {s : List UInt8} (h : lenOK s) : (writeL mkB (recOf s)).length = kOf s + 19 + nOf s := by
  have hp := oneL_places h
  have hg := oneL_good (st := ⟨s, false⟩) (mk := fun _ => s.take 16) (by rw [hp]) (by rw [hp])
  rw [hp] at hg
  have h2 := congrArg List.length hg.2
  dsimp only at h2
  have h3 : (writeL mkB (recOf s)).length = (writeL (fun _ => s.take 16) (recOf s)).length := by
    have : (s.take 16).length = 16 := by have := h.1; simp; omega
    simp only [writeL, List.length_append, mkB_length, this]
  rw [List.length_append, List.length_drop, ← h3] at h2
  have := h.2.2
  omega
end Go.Proofs.YtjjadgcpmfmlfaaDoor
namespace Go.Proofs.YtjjadgcpmfmlfaaDoor
theorem cut_mid (s : List UInt8) (a b : Nat) : (mkS s).extract a b = mkS ((s.drop a).take (b - a)) := by
  apply ByteArray.ext
  rw [ByteArray.data_extract, ← Array.toList_inj, Array.toList_extract]
  simp only [mkS, List.extract_eq_take_drop]
end Go.Proofs.YtjjadgcpmfmlfaaDoor
namespace Go.Proofs.YtjjadgcpmfmlfaaDoor
open Go.RowKit

def firstV (l : List UInt8) : Value := if okOne ⟨l, false⟩ = true then .tuple #[.agg (recV (recOf l)), .int .i64 ((kOf l + 19 + nOf l : Nat) : Int)] else .tuple #[.agg (recV zeroR), .int .i64 0]
theorem firstV_no {l : List UInt8} (h : ¬ (lenOK l ∧ fitB (recOf l) = true ∧ writeL mkB (recOf l) <+: l)) : firstV l = .tuple #[.agg (recV zeroR), .int .i64 0] := by
  unfold firstV
  rw [if_neg (fun h' => h ((okOne_places l).1 h'))]
theorem firstV_ok {l : List UInt8} (h : lenOK l ∧ fitB (recOf l) = true ∧ writeL mkB (recOf l) <+: l) : firstV l = .tuple #[.agg (recV (recOf l)), .int .i64 ((kOf l + 19 + nOf l : Nat) : Int)] := by
  unfold firstV
  rw [if_pos ((okOne_places l).2 h)]
theorem hasPrefix_iff (l p : List UInt8) : Lib.hasPrefix l p = true ↔ p <+: l := by
  unfold Lib.hasPrefix
  exact List.isPrefixOf_iff_prefix
/-- The frame of the region that lays the record. -/
def frF (s : ByteArray) (k : Nat) (x g : Nat → Value) : Act := { tmps := #[x 0, .string s, x 2, x 3, x 4, x 5, .int .i64 (k : Int), g 7, x 8, x 9, x 10, x 11, x 12, x 13, x 14, x 15, x 16, x 17, x 18, x 19, x 20, x 21, x 22, x 23, x 24, x 25, x 26, x 27, x 28, g 29, g 30, g 31, g 32, g 33, g 34, g 35, g 36, g 37, g 38, g 39, g 40, g 41, g 42, g 43, g 44, g 45, undef, undef, undef, undef, undef, undef, undef, undef, undef, undef, undef, undef, undef, undef, undef, undef, undef, undef, undef, undef, undef, undef, undef, undef, undef, undef, undef, undef, undef, undef, undef, undef, undef, undef, undef, undef, undef, undef, undef, undef, undef, undef, undef, undef, undef, undef, undef], defers := [] }
def dstF (i : Nat) : Nat := ([29, 30, 31, 32, 33, 34, 35, 36, 37, 38, 39, 40, 41, 42, 43, 44, 45, 7, 1018] : List Nat).getD i (2000 + i)
/-- What each operation lays. -/
def laysF (s : ByteArray) (k : Nat) (c16 ck : UInt8) (u p : ByteArray) (i : Nat) (v : Value) (_ : World) : Prop :=
  match i with
  | 0 => v = .string s
  | 1 => v = .int .u8 (c16.toNat : Int)
  | 2 => v = .int .i64 (c16.toNat : Int)
  | 3 => v = .string s
  | 4 => v = .int .i64 (k : Int)
  | 5 => v = .string u
  | 6 => v = .string s
  | 7 => v = .int .i64 (k : Int)
  | 8 => v = .int .u8 (ck.toNat : Int)
  | 9 => v = .int .i64 (ck.toNat : Int)
  | 10 => v = .string s
  | 11 => v = .int .i64 (k : Int)
  | 12 => v = .int .i64 ((k : Int) + 1)
  | 13 => v = .int .i64 (k : Int)
  | 14 => v = .int .i64 ((k : Int) + 17)
  | 15 => v = .string p
  | 16 => v = .agg #[.int .i64 (c16.toNat : Int), .string u, .int .i64 (ck.toNat : Int), .string p, .string ⟨#[]⟩]
  | _ => True
/-- What stands in memory. -/
def stateF (w0 : World) (r : Rec) (L : Nat → Bool) (g : Nat → Value) (w : World) : Prop :=
  (∃ y, w = ext w0 y) ∧ (L 18 = true → L 17 = true) ∧ (L 17 = true → ∃ kb, g 7 = .pointer (some ⟨kb, 0, none⟩) ∧ w0.heap.size ≤ kb ∧ w.heap[kb]? = some (.cells (if L 18 = true then recV r else #[.int .i64 0, .string ⟨#[]⟩, .int .i64 0, .string ⟨#[]⟩, .string ⟨#[]⟩]) 45 (0, 0)))
theorem stateF_ext {w0 w w' : World} {r : Rec} {L L' : Nat → Bool} {g g' : Nat → Value} (h : stateF w0 r L g w) (hx : ∃ y, w' = ext w y) (h4 : L' 17 = L 17) (h5 : L' 18 = L 18) (h7 : g' 7 = g 7) : stateF w0 r L' g' w' := by
  obtain ⟨h1, h2, h3⟩ := h
  refine ⟨ext_trans h1 hx, by rw [h4, h5]; exact h2, fun hl => ?_⟩
  rw [h4] at hl
  obtain ⟨kb, k1, k2, k3⟩ := h3 hl
  exact ⟨kb, h7.trans k1, k2, by rw [h5]; exact ((ext_iff.1 hx).block _ (lt_of_heap k3)).trans k3⟩
set_option maxRecDepth 100000 in
set_option maxHeartbeats 8000000 in
theorem first_any (rb : Nat) (s : ByteArray) (w : World) (hs : s.size ≤ 1048576) (hR : isR w rb) :
    Calls Tryd.prog 92 #[.pointer (some ⟨rb, 0, none⟩), .string s] w fun r w' => r = .returned (firstV (bs s)) ∧ ∃ x, w' = ext w x := by
  have R := Lib.hid hR
  clear hR
  have hL := bs_length s
  have hgd := Lib.hid (get_data0 s)
  have NO := Lib.hid (@firstV_no (bs s))
  have OK := Lib.hid (@firstV_ok (bs s))
  have LN := Lib.hid (@places_len (bs s))
  unfold lenOK at NO OK LN
  rw [hL] at NO OK LN
  generalize firstV (bs s) = V at NO OK
  have HZ : Hid ((w.alloc (.cells #[.int .i64 0, .string ⟨#[]⟩, .int .i64 0, .string ⟨#[]⟩, .string ⟨#[]⟩] 45)).heap[w.heap.size]? = some (.cells #[.int .i64 0, .string ⟨#[]⟩, .int .i64 0, .string ⟨#[]⟩, .string ⟨#[]⟩] 45 (0, 0))) := Lib.hid (heap_alloc_at _ _)
  have BZ := Lib.hid ((Below.refl w.heap.size w).alloc (Nat.le_refl _) (.cells #[.int .i64 0, .string ⟨#[]⟩, .int .i64 0, .string ⟨#[]⟩, .string ⟨#[]⟩] 45))
  by_cases h18 : s.size < 18
  · have h18' : (s.size : Int) < 18 := by omega
    have hv := NO.out (fun h => by omega)
    clear NO OK LN hgd
    go_enter Tryd.func92, Tryd.ntmps92
    go_wp2_with fail
    exact ret_cells rfl rfl HZ.out Tryd.underlying45 rfl (by kernel_rfl) rfl rfl ⟨by rw [hv]; rfl, ext_of BZ.out⟩
  · have h18' : ¬ (s.size : Int) < 18 := by omega
    have h17 : 17 < s.size := by omega
    have h16 : 16 < s.size := by omega
    have e17 := hgd.out 17 h17
    have e16 := hgd.out 16 h16
    have hk : kOf (bs s) = 18 + (s.data.toList.getD 17 0).toNat := rfl
    have HR : Hid (recOf (bs s) = ⟨((s.data.toList.getD 16 0).toNat : Nat), s.extract 18 (kOf (bs s)), ((s.data.toList.getD (kOf (bs s)) 0).toNat : Nat), s.extract (kOf (bs s) + 1) (kOf (bs s) + 17), s.extract (kOf (bs s) + 19) (kOf (bs s) + 19 + nOf (bs s))⟩) := Lib.hid (by
      have hm : ∀ a b, s.extract a b = mkS (((bs s).drop a).take (b - a)) := fun a b => cut_mid (bs s) a b
      rw [hm, hm, hm, show kOf (bs s) - 18 = (s.data.toList.getD 17 0).toNat by omega, show kOf (bs s) + 17 - (kOf (bs s) + 1) = 16 by omega, show kOf (bs s) + 19 + nOf (bs s) - (kOf (bs s) + 19) = nOf (bs s) by omega]
      rfl)
    have hn : nOf (bs s) = (s.data.toList.getD (kOf (bs s) + 17) 0).toNat * 256 + (s.data.toList.getD (kOf (bs s) + 18) 0).toNat := rfl
    generalize kOf (bs s) = k at NO OK LN hk HR hn
    generalize nOf (bs s) = n at NO OK LN HR hn
    generalize s.data.toList.getD 17 0 = c17 at e17 hk
    generalize s.data.toList.getD 16 0 = c16 at e16 HR
    have hc17 : (c17.toNat : Int) < 256 := by have := c17.toNat_lt; omega
    by_cases h2 : k + 19 ≤ s.size
    · have h2' : ¬ (s.size : Int) < 18 + (c17.toNat : Int) + 19 := by omega
      have HK := Lib.hid (show (18 : Int) + (c17.toNat : Int) = (k : Int) by omega)
      have hks : k < s.size := by omega
      have ek := hgd.out k hks
      have hq1 : k + 17 < s.size := by omega
      have hq2 : k + 18 < s.size := by omega
      have ek1 := hgd.out (k + 17) hq1
      have ek2 := hgd.out (k + 18) hq2
      generalize s.data.toList.getD k 0 = ck at ek HR
      have hc16 : (c16.toNat : Int) < 256 := by have := c16.toNat_lt; omega
      have hck : (ck.toNat : Int) < 256 := by have := ck.toNat_lt; omega
      generalize s.data.toList.getD (k + 17) 0 = d1 at ek1 hn
      generalize s.data.toList.getD (k + 18) 0 = d2 at ek2 hn
      have hb1 : (k : Int) < s.size := by omega
      have hb2 : (18 : Int) ≤ k := by omega
      have hb3 : (k : Int) + 17 < s.size := by omega
      have hb4 : (k : Int) + 18 < s.size := by omega
      have HU := Lib.hid (show (s.extract 18 k).size ≤ s.size ∧ (s.extract (k + 1) (k + 17)).size ≤ s.size ∧ (s.extract (k + 19) (k + 19 + n)).size ≤ s.size by
        rw [ByteArray.size_extract, ByteArray.size_extract, ByteArray.size_extract]; omega)
      generalize hu : s.extract 18 k = u at HR HU
      generalize hp : s.extract (k + 1) (k + 17) = p at HR HU
      generalize hb : s.extract (k + 19) (k + 19 + n) = b at HR HU
      rw [HR.out] at NO OK LN
      have HN := Lib.hid (show (d1.toNat : Int) * 256 + (d2.toNat : Int) = (n : Int) by omega)
      have hd1 : (d1.toNat : Int) < 256 := by have := d1.toNat_lt; omega
      have hd2 : (d2.toNat : Int) < 256 := by have := d2.toNat_lt; omega
      clear HR hgd hk hn
      go_enter Tryd.func92, Tryd.ntmps92
      go_wp2_with fail
      generalize w.alloc (.cells #[.int .i64 0, .string ⟨#[]⟩, .int .i64 0, .string ⟨#[]⟩, .string ⟨#[]⟩] 45) = wz at HZ BZ ⊢
      rw [HK.out]
      -- REGION
      refine wp_region_slots (frF s k (fun j => (#[.pointer (some ⟨rb, 0, none⟩), .string s, undef, undef, .pointer (some ⟨w.heap.size, 0, none⟩), .int .i64 0, .int .i64 (k : Int), undef, undef, undef, undef, .string s, .int .i64 s.size, .bool false, .bool false, .string s, .int .i64 s.size, .string s, .int .u8 c17.toNat, .int .i64 c17.toNat, .int .i64 (k : Int), .int .i64 ((k : Int) + 19), .bool false, .bool false, undef, .string s, .int .u8 c17.toNat, .int .i64 c17.toNat, .int .i64 (k : Int)] : Array Value).getD j undef)) dstF (fun _ => undef) (laysF s k c16 ck u p) (stateF wz ⟨(c16.toNat : Nat), u, (ck.toNat : Nat), p, ⟨#[]⟩⟩) (fun _ _ => True) (by kernel_rfl) (by kernel_rfl) rfl (fun j v _ _ _ h => h) (by kernel_rfl) ?_ ?_ ?_
      · exact ⟨⟨⟨#[], wz.drawn + 1⟩, by simp [ext]⟩, (fun h => by cases h), fun h => by cases h⟩
      · refine ⟨?_, ?_, ?_, ?_, ?_, ?_, ?_, ?_, ?_, ?_, ?_, ?_, ?_, ?_, ?_, ?_, ?_, ?_, ?_, trivial⟩
        all_goals (intro L g1 w8 hLi hdeps hR hC; refine ends_of fun Q hQ => ?_)
        · unfold frF
          go_wp2_with fail
          exact hQ.out _ _ ⟨.string s, rfl, trivial, rfl, stateF_ext hC (ext_refl _) rfl rfl rfl⟩
        · have r0 : g1 29 = .string s := hR 0 (hdeps ⟨0, .data⟩ (by simp) rfl)
          unfold frF
          go_wp2_with fail
          exact hQ.out _ _ ⟨.int .u8 (c16.toNat : Int), by rw [← upd1_id r0]; rfl, trivial, rfl, stateF_ext hC (ext_refl _) rfl rfl rfl⟩
        · have r1 : g1 30 = .int .u8 (c16.toNat : Int) := hR 1 (hdeps ⟨1, .data⟩ (by simp) rfl)
          unfold frF
          go_wp2_with fail
          exact hQ.out _ _ ⟨.int .i64 (c16.toNat : Int), by rw [← upd1_id r1]; rfl, trivial, rfl, stateF_ext hC (ext_refl _) rfl rfl rfl⟩
        · unfold frF
          go_wp2_with fail
          exact hQ.out _ _ ⟨.string s, rfl, trivial, rfl, stateF_ext hC (ext_refl _) rfl rfl rfl⟩
        · unfold frF
          go_wp2_with fail
          exact hQ.out _ _ ⟨.int .i64 (k : Int), rfl, trivial, rfl, stateF_ext hC (ext_refl _) rfl rfl rfl⟩
        · have r3 : g1 32 = .string s := hR 3 (hdeps ⟨3, .data⟩ (by simp) rfl)
          have r4 : g1 33 = .int .i64 (k : Int) := hR 4 (hdeps ⟨4, .data⟩ (by simp) rfl)
          unfold frF
          go_wp2_with fail
          exact hQ.out _ _ ⟨.string u, by rw [← upd1_id r3, ← upd1_id r4]; rfl, trivial, rfl, stateF_ext hC (ext_refl _) rfl rfl rfl⟩
        · unfold frF
          go_wp2_with fail
          exact hQ.out _ _ ⟨.string s, rfl, trivial, rfl, stateF_ext hC (ext_refl _) rfl rfl rfl⟩
        · unfold frF
          go_wp2_with fail
          exact hQ.out _ _ ⟨.int .i64 (k : Int), rfl, trivial, rfl, stateF_ext hC (ext_refl _) rfl rfl rfl⟩
        · have r6 : g1 35 = .string s := hR 6 (hdeps ⟨6, .data⟩ (by simp) rfl)
          have r7 : g1 36 = .int .i64 (k : Int) := hR 7 (hdeps ⟨7, .data⟩ (by simp) rfl)
          unfold frF
          go_wp2_with fail
          exact hQ.out _ _ ⟨.int .u8 (ck.toNat : Int), by rw [← upd1_id r6, ← upd1_id r7]; rfl, trivial, rfl, stateF_ext hC (ext_refl _) rfl rfl rfl⟩
        · have r8 : g1 37 = .int .u8 (ck.toNat : Int) := hR 8 (hdeps ⟨8, .data⟩ (by simp) rfl)
          unfold frF
          go_wp2_with fail
          exact hQ.out _ _ ⟨.int .i64 (ck.toNat : Int), by rw [← upd1_id r8]; rfl, trivial, rfl, stateF_ext hC (ext_refl _) rfl rfl rfl⟩
        · unfold frF
          go_wp2_with fail
          exact hQ.out _ _ ⟨.string s, rfl, trivial, rfl, stateF_ext hC (ext_refl _) rfl rfl rfl⟩
        · unfold frF
          go_wp2_with fail
          exact hQ.out _ _ ⟨.int .i64 (k : Int), rfl, trivial, rfl, stateF_ext hC (ext_refl _) rfl rfl rfl⟩
        · have r11 : g1 40 = .int .i64 (k : Int) := hR 11 (hdeps ⟨11, .data⟩ (by simp) rfl)
          unfold frF
          go_wp2_with fail
          exact hQ.out _ _ ⟨.int .i64 ((k : Int) + 1), by rw [← upd1_id r11]; rfl, trivial, rfl, stateF_ext hC (ext_refl _) rfl rfl rfl⟩
        · unfold frF
          go_wp2_with fail
          exact hQ.out _ _ ⟨.int .i64 (k : Int), rfl, trivial, rfl, stateF_ext hC (ext_refl _) rfl rfl rfl⟩
        · have r13 : g1 42 = .int .i64 (k : Int) := hR 13 (hdeps ⟨13, .data⟩ (by simp) rfl)
          unfold frF
          go_wp2_with fail
          exact hQ.out _ _ ⟨.int .i64 ((k : Int) + 17), by rw [← upd1_id r13]; rfl, trivial, rfl, stateF_ext hC (ext_refl _) rfl rfl rfl⟩
        · have r10 : g1 39 = .string s := hR 10 (hdeps ⟨10, .data⟩ (by simp) rfl)
          have r12 : g1 41 = .int .i64 ((k : Int) + 1) := hR 12 (hdeps ⟨12, .data⟩ (by simp) rfl)
          have r14 : g1 43 = .int .i64 ((k : Int) + 17) := hR 14 (hdeps ⟨14, .data⟩ (by simp) rfl)
          unfold frF
          go_wp2_with fail
          exact hQ.out _ _ ⟨.string p, by rw [← upd1_id r10, ← upd1_id r12, ← upd1_id r14]; rfl, trivial, rfl, stateF_ext hC (ext_refl _) rfl rfl rfl⟩
        · have r2 : g1 31 = .int .i64 (c16.toNat : Int) := hR 2 (hdeps ⟨2, .data⟩ (by simp) rfl)
          have r5 : g1 34 = .string u := hR 5 (hdeps ⟨5, .data⟩ (by simp) rfl)
          have r9 : g1 38 = .int .i64 (ck.toNat : Int) := hR 9 (hdeps ⟨9, .data⟩ (by simp) rfl)
          have r15 : g1 44 = .string p := hR 15 (hdeps ⟨15, .data⟩ (by simp) rfl)
          unfold frF
          go_wp2_with fail
          exact hQ.out _ _ ⟨.agg #[.int .i64 (c16.toNat : Int), .string u, .int .i64 (ck.toNat : Int), .string p, .string ⟨#[]⟩], by rw [← upd1_id r2, ← upd1_id r5, ← upd1_id r9, ← upd1_id r15]; rfl, trivial, rfl, stateF_ext hC (ext_refl _) rfl rfl rfl⟩
        · unfold frF
          go_wp2_with fail
          exact hQ.out _ _ ⟨.pointer (some ⟨w8.heap.size, 0, none⟩), rfl, trivial, trivial, ext_alloc _ hC.1, fun _ => rfl, fun _ => ⟨w8.heap.size, rfl, (ext_iff.1 hC.1).size, by show _ = some (Obj.cells (if L 18 = true then _ else _) _ _); rw [if_neg (fun h => by have := hC.2.1 h; rw [hLi] at this; cases this)]; exact heap_alloc_at w8 _⟩⟩
        · have r16 : g1 45 = .agg #[.int .i64 (c16.toNat : Int), .string u, .int .i64 (ck.toNat : Int), .string p, .string ⟨#[]⟩] := hR 16 (hdeps ⟨16, .data⟩ (by simp) rfl)
          have l17 : L 17 = true := hdeps ⟨17, .data⟩ (by simp) rfl
          obtain ⟨kb, r17, hkb, hcb⟩ := hC.2.2 l17
          rw [if_neg (by simp [hLi])] at hcb
          have hcb := Lib.hid hcb
          obtain ⟨z0, z1, z2, z3, z4⟩ := rec_cells (r := zeroR) hcb.out
          have fz := free_of_heap hcb.out
          unfold zeroR at z0 z1 z2 z3 z4
          dsimp only at z0 z1 z2 z3 z4
          unfold frF
          go_wp2_with fail
          obtain ⟨S5, U5⟩ := set5r (by rfl) hcb.out ⟨(c16.toNat : Nat), u, (ck.toNat : Nat), p, ⟨#[]⟩⟩
          exact hQ.out _ _ ⟨undef, by rw [← upd1_id r16, ← upd1_id r17]; rfl, trivial, trivial, ext_of ((ext_iff.1 hC.1).grown U5 (ext_iff.1 hC.1).size (by rintro _ ⟨⟩; exact hkb)), fun _ => l17, fun _ => ⟨kb, r17, hkb, S5⟩⟩
      intro L g1 wc hL hR hC
      obtain ⟨XC, -, h7⟩ := hC
      obtain ⟨kb, r7, hkb, hcb⟩ := h7 (hL 17 (by simp))
      rw [if_pos (hL 18 (by simp))] at hcb
      have HC := Lib.hid hcb
      have HZ2 := Lib.hid (((ext_iff.1 XC).block _ (lt_of_heap HZ.out)).trans HZ.out)
      have BZ2 := Lib.hid (BZ.out.trans ((ext_iff.1 XC).mono BZ.out.size))
      have hkz : w.heap.size < kb := Nat.lt_of_lt_of_le (lt_of_heap HZ.out) hkb
      clear hL hR h7 hcb XC HZ BZ hkb wz
      rw [show frF s k (fun j => (#[.pointer (some ⟨rb, 0, none⟩), .string s, undef, undef, .pointer (some ⟨w.heap.size, 0, none⟩), .int .i64 0, .int .i64 (k : Int), undef, undef, undef, undef, .string s, .int .i64 s.size, .bool false, .bool false, .string s, .int .i64 s.size, .string s, .int .u8 c17.toNat, .int .i64 c17.toNat, .int .i64 (k : Int), .int .i64 ((k : Int) + 19), .bool false, .bool false, undef, .string s, .int .u8 c17.toNat, .int .i64 c17.toNat, .int .i64 (k : Int)] : Array Value).getD j undef) g1 = { tmps := #[.pointer (some ⟨rb, 0, none⟩), .string s, undef, undef, .pointer (some ⟨w.heap.size, 0, none⟩), .int .i64 0, .int .i64 (k : Int), g1 7, undef, undef, undef, .string s, .int .i64 s.size, .bool false, .bool false, .string s, .int .i64 s.size, .string s, .int .u8 c17.toNat, .int .i64 c17.toNat, .int .i64 (k : Int), .int .i64 ((k : Int) + 19), .bool false, .bool false, undef, .string s, .int .u8 c17.toNat, .int .i64 c17.toNat, .int .i64 (k : Int), g1 29, g1 30, g1 31, g1 32, g1 33, g1 34, g1 35, g1 36, g1 37, g1 38, g1 39, g1 40, g1 41, g1 42, g1 43, g1 44, g1 45, undef, undef, undef, undef, undef, undef, undef, undef, undef, undef, undef, undef, undef, undef, undef, undef, undef, undef, undef, undef, undef, undef, undef, undef, undef, undef, undef, undef, undef, undef, undef, undef, undef, undef, undef, undef, undef, undef, undef, undef, undef, undef, undef, undef, undef, undef, undef], defers := [] } from rfl, r7]
      clear r7
      go_wp2_with fail
      -- ENDREGION
      clear e17 e16 ek hu hp h18' h2' hc17 hc16 hck hb1 hb2 h17 h16 hks
      have ht1 : ((k : Int) + 17).toNat = k + 17 := by omega
      have ht2 : ((k : Int) + 18).toNat = k + 18 := by omega
      refine wp_region_ext (by kernel_rfl) (by kernel_rfl) ?_
      repeat (go_big_quiet_step (fail))
      refine wpQuiet_nil ?_
      rintro _ ⟨x, rfl⟩
      have HC3 := Lib.hid (((ext_below wc x).block _ (lt_of_heap HC.out)).trans HC.out)
      have HZ3 := Lib.hid (((ext_below wc x).block _ (lt_of_heap HZ2.out)).trans HZ2.out)
      have BZ3 := Lib.hid (BZ2.out.trans ((ext_below wc x).mono BZ2.out.size))
      generalize ext wc x = wd at HC3 HZ3 BZ3 ⊢
      rw [HN.out]
      have hnb : (n : Int) < 65536 := by have := HN.out; omega
      clear HC HZ2 BZ2 wc HN ek1 ek2 hd1 hd2
      by_cases h3 : k + 19 + n ≤ s.size
      · have h3' : ¬ (s.size : Int) < (k : Int) + 19 + n := by omega
        have HL := Lib.hid (LN.out ⟨by omega, h2, h3⟩)
        have hkw : kb < wd.heap.size := lt_of_heap HC3.out
        have hsu : u.size ≤ 1048576 ∧ p.size ≤ 1048576 ∧ b.size ≤ 1048576 := by
          exact ⟨Nat.le_trans HU.out.1 hs, Nat.le_trans HU.out.2.1 hs, Nat.le_trans HU.out.2.2 hs⟩
        obtain ⟨e0, e1, e2, e3, e4⟩ := rec_cells (r := ⟨(c16.toNat : Nat), u, (ck.toNat : Nat), p, ⟨#[]⟩⟩) HC3.out
        have fe := free_of_heap HC3.out
        dsimp only at e0 e1 e2 e3 e4
        have HC4 : Hid ((wd.setCell ⟨kb, 4, none⟩ (.string b)).heap[kb]? = some (.cells (recV ⟨(c16.toNat : Nat), u, (ck.toNat : Nat), p, b⟩) 45 (0, 0))) := Lib.hid ((heap_setCell (i := 4) HC3.out (.string b)).trans rfl)
        have G4 := grown_setCell wd kb 4 (.string b)
        have HZ4 := Lib.hid ((G4.block w.heap.size (lt_of_heap HZ3.out) (by intro e; injection e with e; omega)).trans HZ3.out)
        have BZ4 := Lib.hid (BZ3.out.grown G4 BZ3.out.size (by rintro _ ⟨⟩; omega))
        have RW := rwrite_any rb ⟨(c16.toNat : Nat), u, (ck.toNat : Nat), p, b⟩ (wd.setCell ⟨kb, 4, none⟩ (.string b)) hsu (isR_ext R.out (ext_of BZ4.out))
        generalize fitB ⟨(c16.toNat : Nat), u, (ck.toNat : Nat), p, b⟩ = fit at NO OK RW
        generalize writeL mkB ⟨(c16.toNat : Nat), u, (ck.toNat : Nat), p, b⟩ = T at NO OK RW HL
        unfold recV at RW
        dsimp only at RW
        clear G4 HZ3 BZ3 LN
        cases fit with
        | false =>
          have hv := Lib.hid (NO.out (fun h => by cases h.2.1))
          simp only [Bool.false_eq_true, if_false] at RW
          go_wp2_with fail
          refine RW.mono ?_
          rintro _ w5 ⟨rfl, hx⟩
          have HZ5 := Lib.hid (((ext_iff.1 hx).block _ (lt_of_heap HZ4.out)).trans HZ4.out)
          have BZ5 := Lib.hid (BZ4.out.trans ((ext_iff.1 hx).mono BZ4.out.size))
          clear RW hx HC4 HC3 e0 e1 e2 e3 e4 fe
          obtain ⟨z0, z1, z2, z3, z4⟩ := rec_cells (r := zeroR) HZ5.out
          have fz := free_of_heap HZ5.out
          unfold zeroR at z0 z1 z2 z3 z4
          dsimp only at z0 z1 z2 z3 z4
          go_wp2_with fail
          obtain ⟨S5, U5⟩ := set5r (by rfl) HZ5.out zeroR
          unfold zeroR at S5 U5
          dsimp only at S5 U5
          exact ret_cells rfl rfl S5 Tryd.underlying45 rfl (by kernel_rfl) rfl rfl ⟨by rw [hv.out]; rfl, ext_of (BZ5.out.grown U5 BZ5.out.size (by rintro _ ⟨⟩; exact Nat.le_refl _))⟩
        | true =>
          simp only [if_true] at RW
          go_wp2_with fail
          refine RW.mono ?_
          rintro _ w5 ⟨rfl, hx⟩
          have HZ5 := Lib.hid (((ext_iff.1 hx).block _ (lt_of_heap HZ4.out)).trans HZ4.out)
          have HC5 := Lib.hid (((ext_iff.1 hx).block _ (lt_of_heap HC4.out)).trans HC4.out)
          have BZ5 := Lib.hid (BZ4.out.trans ((ext_iff.1 hx).mono BZ4.out.size))
          clear RW hx HC4 HC3 e0 e1 e2 e3 e4 fe
          have HP := Tryd.strings_HasPrefix s ⟨T.toArray⟩ w5
          rw [show Lib.hasPrefix s.data.toList (⟨T.toArray⟩ : ByteArray).data.toList = Lib.hasPrefix (bs s) T from rfl] at HP
          cases hpre : Lib.hasPrefix (bs s) T with
          | false =>
            rw [hpre] at HP
            have hv := Lib.hid (NO.out (fun h => by have := (hasPrefix_iff _ _).2 h.2.2; rw [hpre] at this; cases this))
            go_wp2_with fail
            refine HP.mono ?_
            rintro _ w6 ⟨rfl, rfl⟩
            clear HP
            obtain ⟨z0, z1, z2, z3, z4⟩ := rec_cells (r := zeroR) HZ5.out
            have fz := free_of_heap HZ5.out
            unfold zeroR at z0 z1 z2 z3 z4
            dsimp only at z0 z1 z2 z3 z4
            go_wp2_with fail
            obtain ⟨S5, U5⟩ := set5r (by rfl) HZ5.out zeroR
            unfold zeroR at S5 U5
            dsimp only at S5 U5
            exact ret_cells rfl rfl S5 Tryd.underlying45 rfl (by kernel_rfl) rfl rfl ⟨by rw [hv.out]; rfl, ext_of (BZ5.out.grown U5 BZ5.out.size (by rintro _ ⟨⟩; exact Nat.le_refl _))⟩
          | true =>
            rw [hpre] at HP
            have hv := OK.out ⟨⟨by omega, h2, h3⟩, by simp, (hasPrefix_iff _ _).1 hpre⟩
            rw [← HL.out] at hv
            have hv := Lib.hid hv
            obtain ⟨e0, e1, e2, e3, e4⟩ := rec_cells (r := ⟨(c16.toNat : Nat), u, (ck.toNat : Nat), p, b⟩) HC5.out
            obtain ⟨z0, z1, z2, z3, z4⟩ := rec_cells (r := zeroR) HZ5.out
            have fz := free_of_heap HZ5.out
            unfold zeroR at z0 z1 z2 z3 z4
            dsimp only at z0 z1 z2 z3 z4 e0 e1 e2 e3 e4
            go_wp2_with fail
            refine HP.mono ?_
            rintro _ w6 ⟨rfl, rfl⟩
            clear HP
            go_wp2_with fail
            obtain ⟨S5, U5⟩ := set5r (by rfl) HZ5.out ⟨(c16.toNat : Nat), u, (ck.toNat : Nat), p, b⟩
            dsimp only at S5 U5
            exact ret_cells rfl rfl S5 Tryd.underlying45 rfl (by kernel_rfl) rfl rfl ⟨by rw [hv.out]; rfl, ext_of (BZ5.out.grown U5 BZ5.out.size (by rintro _ ⟨⟩; exact Nat.le_refl _))⟩
      · have h3' : (s.size : Int) < (k : Int) + 19 + n := by omega
        have hv := Lib.hid (NO.out (fun h => h3 h.1.2.2))
        obtain ⟨z0, z1, z2, z3, z4⟩ := rec_cells (r := zeroR) HZ3.out
        have fz := free_of_heap HZ3.out
        unfold zeroR at z0 z1 z2 z3 z4
        dsimp only at z0 z1 z2 z3 z4
        go_wp2_with fail
        obtain ⟨S5, U5⟩ := set5r (by rfl) HZ3.out zeroR
        unfold zeroR at S5 U5
        dsimp only at S5 U5
        exact ret_cells rfl rfl S5 Tryd.underlying45 rfl (by kernel_rfl) rfl rfl ⟨by rw [hv.out]; rfl, ext_of (BZ3.out.grown U5 BZ3.out.size (by rintro _ ⟨⟩; exact Nat.le_refl _))⟩
    · have h2' : (s.size : Int) < 18 + (c17.toNat : Int) + 19 := by omega
      have hv := Lib.hid (NO.out (fun h => h2 h.1.2.1))
      clear NO OK LN hgd HR hn hk h2 e16 h16
      go_enter Tryd.func92, Tryd.ntmps92
      go_wp2_with fail
      exact ret_cells rfl rfl HZ.out Tryd.underlying45 rfl (by kernel_rfl) rfl rfl ⟨by rw [hv.out]; rfl, ext_of BZ.out⟩
end Go.Proofs.YtjjadgcpmfmlfaaDoor
namespace Go.Proofs.YtjjadgcpmfmlfaaDoor
open Go.RowKit

def answR (s : ByteArray) : Value := if parseOK s = true then .tuple #[.agg (recV (parseR s)), .int .i64 0] else .tuple #[.agg (recV zeroR), .int .i64 3]
theorem parse_first {s : ByteArray} (h : okOne ⟨bs s, false⟩ = true) : kOf (bs s) + 19 + nOf (bs s) ≤ s.size ∧ parseR s = recOf (bs s) ∧ (parseOK s = true ↔ kOf (bs s) + 19 + nOf (bs s) = s.size) := by
  have hl := ((okOne_places (bs s)).1 h).1
  have hp := oneL_places hl
  have h3 := hl.2.2
  rw [bs_length] at h3
  refine ⟨h3, ?_, ?_⟩
  · unfold parseR; rw [hp]
  · unfold parseOK
    rw [h, hp, Bool.true_and]
    dsimp only
    rw [List.isEmpty_iff, List.drop_eq_nil_iff, bs_length]
    omega
theorem parse_not {s : ByteArray} (h : ¬ okOne ⟨bs s, false⟩ = true) : parseOK s = false := by
  unfold parseOK
  rw [Bool.not_eq_true] at h
  rw [h, Bool.false_and]
set_option maxRecDepth 100000 in
set_option maxHeartbeats 4000000 in
theorem rparse_any (rb : Nat) (s : ByteArray) (w : World) (hs : s.size ≤ 1048576) (hR : isR w rb) :
    Calls Tryd.prog 44 #[.pointer (some ⟨rb, 0, none⟩), .string s] w fun r w' => r = .returned (answR s) ∧ ∃ x, w' = ext w x := by
  have HZ : Hid ((w.alloc (.cells #[.int .i64 0, .string ⟨#[]⟩, .int .i64 0, .string ⟨#[]⟩, .string ⟨#[]⟩] 45)).heap[w.heap.size]? = some (.cells #[.int .i64 0, .string ⟨#[]⟩, .int .i64 0, .string ⟨#[]⟩, .string ⟨#[]⟩] 45 (0, 0))) := Lib.hid (heap_alloc_at _ _)
  have BZ := Lib.hid ((Below.refl w.heap.size w).alloc (Nat.le_refl _) (.cells #[.int .i64 0, .string ⟨#[]⟩, .int .i64 0, .string ⟨#[]⟩, .string ⟨#[]⟩] 45))
  have FA := first_any rb s _ hs (isR_alloc hR (.cells #[.int .i64 0, .string ⟨#[]⟩, .int .i64 0, .string ⟨#[]⟩, .string ⟨#[]⟩] 45))
  unfold firstV at FA
  by_cases hok : okOne ⟨bs s, false⟩ = true
  · rw [if_pos hok] at FA
    obtain ⟨hN, h2, h3⟩ := parse_first hok
    have hpos : 0 < kOf (bs s) + 19 + nOf (bs s) := by omega
    have HA : Hid (answR s = if kOf (bs s) + 19 + nOf (bs s) = s.size then .tuple #[.agg (recV (recOf (bs s))), .int .i64 0] else .tuple #[.agg (recV zeroR), .int .i64 3]) := Lib.hid (by
      unfold answR
      by_cases h : parseOK s = true
      · rw [if_pos h, if_pos (h3.1 h), h2]
      · rw [if_neg h, if_neg (fun h' => h (h3.2 h'))])
    clear h2 h3 hok hR
    generalize answR s = V at HA ⊢
    generalize kOf (bs s) + 19 + nOf (bs s) = n at FA HA hpos hN
    generalize recOf (bs s) = r at FA HA
    obtain ⟨q, u, g, p, b⟩ := r
    unfold recV at FA
    dsimp only at FA
    have hn0 : ((n : Int) == 0) = false := beq_eq_false_iff_ne.2 (by omega)
    go_enter Tryd.func44, Tryd.ntmps44
    go_wp2_with fail
    refine FA.mono ?_
    rintro _ w2 ⟨rfl, hx⟩
    have HZ2 := Lib.hid (((ext_iff.1 hx).block _ (lt_of_heap HZ.out)).trans HZ.out)
    have B2 := Lib.hid (BZ.out.trans ((ext_iff.1 hx).mono BZ.out.size))
    clear FA hx HZ BZ
    have HZ3 := Lib.hid ((heap_alloc_old w2 (.cells #[.int .i64 q, .string u, .int .i64 g, .string p, .string b] 45) (lt_of_heap HZ2.out)).trans HZ2.out)
    have E3 := Lib.hid (heap_alloc_at w2 (.cells #[.int .i64 q, .string u, .int .i64 g, .string p, .string b] 45))
    have B3 := Lib.hid (B2.out.alloc B2.out.size (.cells #[.int .i64 q, .string u, .int .i64 g, .string p, .string b] 45))
    obtain ⟨z0, z1, z2, z3, z4⟩ := rec_cells (r := zeroR) HZ3.out
    obtain ⟨e0, e1, e2, e3, e4⟩ := rec_cells (r := ⟨q, u, g, p, b⟩) E3.out
    have fz := free_of_heap HZ3.out
    unfold zeroR at z0 z1 z2 z3 z4
    dsimp only at z0 z1 z2 z3 z4 e0 e1 e2 e3 e4
    clear HZ2 B2
    by_cases hns : n = s.size
    · have hv := Lib.hid (HA.out.trans (if_pos hns))
      have hb1 : ((n : Int) != (s.size : Int)) = false := by rw [hns]; simp
      clear HA hns hN hpos
      go_wp2_with fail
      obtain ⟨S5, U5⟩ := set5r (by rfl) HZ3.out ⟨q, u, g, p, b⟩
      dsimp only at S5 U5
      exact ret_cells rfl rfl S5 Tryd.underlying45 rfl (by kernel_rfl) rfl rfl ⟨by rw [hv.out]; rfl, ext_of (B3.out.grown U5 B3.out.size (by rintro _ ⟨⟩; exact Nat.le_refl _))⟩
    · have hv := Lib.hid (HA.out.trans (if_neg hns))
      have hb1 : ((n : Int) != (s.size : Int)) = true := by simp; omega
      clear HA hns hN hpos
      go_wp2_with fail
      obtain ⟨S5, U5⟩ := set5r (by rfl) HZ3.out zeroR
      unfold zeroR at S5 U5
      dsimp only at S5 U5
      exact ret_cells rfl rfl S5 Tryd.underlying45 rfl (by kernel_rfl) rfl rfl ⟨by rw [hv.out]; rfl, ext_of (B3.out.grown U5 B3.out.size (by rintro _ ⟨⟩; exact Nat.le_refl _))⟩
  · rw [if_neg hok] at FA
    have hv := Lib.hid (show answR s = .tuple #[.agg (recV zeroR), .int .i64 3] from by unfold answR; rw [parse_not hok]; rfl)
    unfold recV zeroR at FA
    dsimp only at FA
    clear hR hok
    generalize answR s = V at hv ⊢
    go_enter Tryd.func44, Tryd.ntmps44
    go_wp2_with fail
    refine FA.mono ?_
    rintro _ w2 ⟨rfl, hx⟩
    have HZ2 := Lib.hid (((ext_iff.1 hx).block _ (lt_of_heap HZ.out)).trans HZ.out)
    have B2 := Lib.hid (BZ.out.trans ((ext_iff.1 hx).mono BZ.out.size))
    clear FA hx HZ BZ
    have HZ3 := Lib.hid ((heap_alloc_old w2 (.cells #[.int .i64 0, .string ⟨#[]⟩, .int .i64 0, .string ⟨#[]⟩, .string ⟨#[]⟩] 45) (lt_of_heap HZ2.out)).trans HZ2.out)
    have B3 := Lib.hid (B2.out.alloc B2.out.size (.cells #[.int .i64 0, .string ⟨#[]⟩, .int .i64 0, .string ⟨#[]⟩, .string ⟨#[]⟩] 45))
    obtain ⟨z0, z1, z2, z3, z4⟩ := rec_cells (r := zeroR) HZ3.out
    have fz := free_of_heap HZ3.out
    unfold zeroR at z0 z1 z2 z3 z4
    dsimp only at z0 z1 z2 z3 z4
    clear HZ2 B2
    go_wp2_with fail
    obtain ⟨S5, U5⟩ := set5r (by rfl) HZ3.out zeroR
    unfold zeroR at S5 U5
    dsimp only at S5 U5
    exact ret_cells rfl rfl S5 Tryd.underlying45 rfl (by kernel_rfl) rfl rfl ⟨by rw [hv.out]; rfl, ext_of (B3.out.grown U5 B3.out.size (by rintro _ ⟨⟩; exact Nat.le_refl _))⟩
end Go.Proofs.YtjjadgcpmfmlfaaDoor
