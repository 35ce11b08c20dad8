/- oubliettekeep.ReaderAgain (the walk). -/
import Derived.Test.YtafdigdopeahdaaGreatDoorProg
import Derived.Test.YtafdigdopeahdaaGreatDoorH42
import Derived.Test.YtafdigdopeahdaaGreatDoorH43
namespace Go.Proofs.YtafdigdopeahdaaGreatDoor
open Go.RowKit Go.Shelf

theorem recsAt_take {w : World} {q : Option Addr} {l : List Rec} (h : recsAt w q l) (k : Nat) : recsAt w q (l.take k) := by
  rcases h with h | ⟨g, o, hq, hg, hc⟩
  · exact .inl (by rw [h]; exact List.take_nil)
  · exact .inr ⟨g, o, hq, hg, fun j e hj => hc j e (by rw [List.getElem?_take] at hj; split at hj; exact hj; cases hj)⟩
theorem ownsRl_cap' {w : World} {base n c : Nat} {q : Option Addr} {l : List Rec} (h : ownsRl w base (.slice q n c) l) : n ≤ c ∧ n = l.length := by
  obtain ⟨_, ⟨h1, h2⟩ | ⟨g, cap', cur, h1, _, _, h2, _⟩⟩ := h
  · injection h1 with _ h1 h3; subst h1 h3; exact ⟨Nat.le_refl _, h2.symm⟩
  · injection h1 with _ h1 h3; subst h1 h3; exact ⟨h2, rfl⟩
/-- A reader of the first n records, and what stands beside. -/
structure agIn (w0 w : World) (D : Blk) (rb vb n : Nat) (R : RunM) : Prop where
  rdr : rdIn w D rb vb n (follR R n)
  st : step w0 w none0 D
theorem agIn.ext {w0 w w' : World} {D : Blk} {rb vb n : Nat} {R : RunM} (h : agIn w0 w D rb vb n R) (hx : ∃ x, w' = Go.Proofs.YtafdigdopeahdaaGreatDoor.ext w x) : agIn w0 w' D rb vb n R :=
  ⟨h.rdr.ext hx, h.st.trans (.of_ext D hx)⟩
theorem foll_len {R : RunM} (HR : Runs secS R) (n : Nat) (hn : n ≤ R.ok.length) : (follR R n).T.length ≤ n := by
  rw [(late HR n hn).2.2.1]
  exact Nat.le_trans (List.length_filter_le _ _) (tabN_len _ _)
/-- What 'follow' gives. -/
def folV (R : RunM) (W : World) (vb n : Nat) (mk : Nat → Value) (v : Value) (w : World) : Prop := ∃ rb D, v = mk rb ∧ rdIn w D rb vb n (follR R n) ∧ step W w none0 D
theorem folV.kept {R : RunM} {W w w' : World} {vb n : Nat} {mk : Nat → Value} {v : Value} (h : folV R W vb n mk v w) (hx : ∃ x, w' = ext w x) : folV R W vb n mk v w' := by
  obtain ⟨rb, D, h1, h2, h3⟩ := h
  exact ⟨rb, D, h1, h2.ext hx, h3.trans (.of_ext D hx)⟩
def frRa (q1 : Option Addr) (ll : Nat) (cp1 : Nat) (q2 : Option Addr) (ls : Nat) (cp2 : Nat) (sb : Nat) (vb : Nat) (vo : Value) (vr : Value) (q4 : Option Addr) (nL : Nat) (c4 : Nat) (rb : Nat) (n : Nat) (i : Nat) (u4 : Value) (u13 : Value) (u14 : Value) (u15 : Value) (u16 : Value) (u17 : Value) (u61 : Value) (u62 : Value) (u63 : Value) (u64 : Value) (u65 : Value) (u66 : Value) (u67 : Value) (u68 : Value) (u69 : Value) (u70 : Value) (u71 : Value) (u72 : Value) (u73 : Value) (u74 : Value) (u75 : Value) (u76 : Value) (u77 : Value) (u78 : Value) (u79 : Value) (u80 : Value) (u81 : Value) (u82 : Value) (u83 : Value) (u84 : Value) (u85 : Value) (u86 : Value) (u87 : Value) (u88 : Value) (u89 : Value) (u90 : Value) (u91 : Value) (u92 : Value) (u93 : Value) (u94 : Value) (u95 : Value) (u96 : Value) (u97 : Value) (u98 : Value) (u99 : Value) (u100 : Value) (u101 : Value) (u102 : Value) (u103 : Value) (u104 : Value) (u105 : Value) (u106 : Value) (u107 : Value) (u108 : Value) (u109 : Value) (u110 : Value) (u111 : Value) (u112 : Value) (u113 : Value) (u114 : Value) (g : Nat → Value) : Act := { tmps := #[.slice q1 ll cp1, .slice q2 ls cp2, undef, undef, u4, .pointer (some ⟨sb, 0, none⟩), vo, vr, .slice q4 nL c4, .pointer (some ⟨rb, 0, none⟩), .nilIface, .int .i64 n, .int .i64 i, u13, u14, u15, u16, u17, g 18, g 19, .slice q1 ll cp1, .bool true, .bool false, .bool false, .slice q2 ls cp2, .int .i64 ls, .bool false, .bool false, .bool true, .bool false, .tuple #[.pointer (some ⟨sb, 0, none⟩), vo, vr], .slice q1 ll cp1, .tuple #[.pointer (some ⟨sb, 0, none⟩), vo, vr], .pointer (some ⟨sb, 0, none⟩), vo, vr, .pointer (some ⟨sb, 0, none⟩), .bool false, .pointer (some ⟨sb, 0, none⟩), .slice q4 nL c4, .tuple #[.pointer (some ⟨rb, 0, none⟩), .nilIface], .pointer (some ⟨sb, 0, none⟩), .pointer (some ⟨vb, 0, none⟩), .tuple #[.pointer (some ⟨rb, 0, none⟩), .nilIface], .pointer (some ⟨rb, 0, none⟩), .nilIface, .nilIface, .bool false, .bool false, .pointer (some ⟨rb, 0, none⟩), .bool false, .bool false, .int .i64 i, .slice q2 ls cp2, .int .i64 ls, .bool true, .bool true, .slice q4 nL c4, .int .i64 nL, .bool false, .bool false, u61, u62, u63, u64, u65, u66, u67, u68, u69, u70, u71, u72, u73, u74, u75, u76, u77, u78, u79, u80, u81, u82, u83, u84, u85, u86, u87, u88, u89, u90, u91, u92, u93, u94, u95, u96, u97, u98, u99, u100, u101, u102, u103, u104, u105, u106, u107, u108, u109, u110, u111, u112, u113, u114, g 115, g 116, g 117, g 118, g 119, g 120, g 121, g 122, g 123, undef, undef, undef, undef, undef, undef, undef, undef, undef, undef, undef, undef, undef, undef, undef], defers := [] }
def dstRa (i : Nat) : Nat := ([116, 117, 118, 119, 120, 121, 115, 122, 123, 18, 19] : List Nat).getD i (2000 + i)
def laysRa (sb : Nat) (vb : Nat) (q4 : Option Addr) (nL : Nat) (c4 : Nat) (n : Nat) (R : RunM) (W : World) (j : Nat) (v : Value) (w : World) : Prop :=
  match j with
  | 0 => v = .pointer (some ⟨sb, 0, none⟩)
  | 1 => v = .pointer (some ⟨vb, 0, none⟩)
  | 2 => v = .slice q4 nL c4
  | 3 => v = .int .i64 n
  | 4 => v = .slice q4 n c4
  | 5 => folV R W vb n (fun p => .tuple #[.pointer (some ⟨p, 0, none⟩), .bool true]) v w
  | 6 => folV R W vb n (fun p => .tuple #[.pointer (some ⟨p, 0, none⟩), .bool true]) v w
  | 7 => folV R W vb n (fun p => .pointer (some ⟨p, 0, none⟩)) v w
  | 8 => v = .bool true
  | 9 => folV R W vb n (fun p => .pointer (some ⟨p, 0, none⟩)) v w
  | 10 => v = .bool true
  | _ => True
def frRb (q1 : Option Addr) (ll : Nat) (cp1 : Nat) (q2 : Option Addr) (ls : Nat) (cp2 : Nat) (sb : Nat) (vb : Nat) (vo : Value) (vr : Value) (q4 : Option Addr) (nL : Nat) (c4 : Nat) (rb : Nat) (n : Nat) (u4 : Value) (u13 : Value) (u14 : Value) (u15 : Value) (u16 : Value) (u17 : Value) (u61 : Value) (u62 : Value) (u63 : Value) (u64 : Value) (u65 : Value) (u66 : Value) (u67 : Value) (u68 : Value) (u69 : Value) (u70 : Value) (u71 : Value) (u72 : Value) (u73 : Value) (u74 : Value) (u75 : Value) (u76 : Value) (u77 : Value) (u78 : Value) (u79 : Value) (u80 : Value) (u81 : Value) (u82 : Value) (u83 : Value) (u84 : Value) (u85 : Value) (u86 : Value) (u87 : Value) (u88 : Value) (u89 : Value) (u90 : Value) (u91 : Value) (u92 : Value) (u93 : Value) (u94 : Value) (u95 : Value) (u96 : Value) (u97 : Value) (u98 : Value) (u99 : Value) (u100 : Value) (u101 : Value) (u102 : Value) (u103 : Value) (u104 : Value) (u105 : Value) (u106 : Value) (u107 : Value) (u108 : Value) (u109 : Value) (u110 : Value) (u111 : Value) (u112 : Value) (u113 : Value) (u114 : Value) (g : Nat → Value) : Act := { tmps := #[.slice q1 ll cp1, .slice q2 ls cp2, undef, undef, u4, .pointer (some ⟨sb, 0, none⟩), vo, vr, .slice q4 nL c4, .pointer (some ⟨rb, 0, none⟩), .nilIface, .int .i64 n, .int .i64 ls, u13, u14, u15, u16, u17, g 18, g 19, .slice q1 ll cp1, .bool true, .bool false, .bool false, .slice q2 ls cp2, .int .i64 ls, .bool false, .bool false, .bool true, .bool false, .tuple #[.pointer (some ⟨sb, 0, none⟩), vo, vr], .slice q1 ll cp1, .tuple #[.pointer (some ⟨sb, 0, none⟩), vo, vr], .pointer (some ⟨sb, 0, none⟩), vo, vr, .pointer (some ⟨sb, 0, none⟩), .bool false, .pointer (some ⟨sb, 0, none⟩), .slice q4 nL c4, .tuple #[.pointer (some ⟨rb, 0, none⟩), .nilIface], .pointer (some ⟨sb, 0, none⟩), .pointer (some ⟨vb, 0, none⟩), .tuple #[.pointer (some ⟨rb, 0, none⟩), .nilIface], .pointer (some ⟨rb, 0, none⟩), .nilIface, .nilIface, .bool false, .bool false, .pointer (some ⟨rb, 0, none⟩), .bool false, .bool false, .int .i64 ls, .slice q2 ls cp2, .int .i64 ls, .bool false, .bool false, undef, undef, undef, .bool false, u61, u62, u63, u64, u65, u66, u67, u68, u69, u70, u71, u72, u73, u74, u75, u76, u77, u78, u79, u80, u81, u82, u83, u84, u85, u86, u87, u88, u89, u90, u91, u92, u93, u94, u95, u96, u97, u98, u99, u100, u101, u102, u103, u104, u105, u106, u107, u108, u109, u110, u111, u112, u113, u114, g 115, g 116, g 117, g 118, g 119, g 120, g 121, g 122, g 123, undef, undef, undef, undef, undef, undef, undef, undef, undef, undef, undef, undef, undef, undef, undef], defers := [] }
def dstRb (i : Nat) : Nat := ([116, 117, 118, 119, 120, 121, 115, 122, 123, 18, 19] : List Nat).getD i (2000 + i)
def laysRb (sb : Nat) (vb : Nat) (q4 : Option Addr) (nL : Nat) (c4 : Nat) (n : Nat) (R : RunM) (W : World) (j : Nat) (v : Value) (w : World) : Prop :=
  match j with
  | 0 => v = .pointer (some ⟨sb, 0, none⟩)
  | 1 => v = .pointer (some ⟨vb, 0, none⟩)
  | 2 => v = .slice q4 nL c4
  | 3 => v = .int .i64 n
  | 4 => v = .slice q4 n c4
  | 5 => folV R W vb n (fun p => .tuple #[.pointer (some ⟨p, 0, none⟩), .bool true]) v w
  | 6 => folV R W vb n (fun p => .tuple #[.pointer (some ⟨p, 0, none⟩), .bool true]) v w
  | 7 => folV R W vb n (fun p => .pointer (some ⟨p, 0, none⟩)) v w
  | 8 => v = .bool true
  | 9 => folV R W vb n (fun p => .pointer (some ⟨p, 0, none⟩)) v w
  | 10 => v = .bool true
  | _ => True
set_option maxRecDepth 100000 in
set_option maxHeartbeats 8000000 in
theorem readerAgain_any (q1 : Option Addr) (cp1 : Nat) (l : List Ev) (q2 : Option Addr) (cp2 : Nat) (sees : List Int) (w : World) (hl : l.length ≤ 9223372036854775807) (hm : sees.length ≤ 9223372036854775807) (h1 : evsAt w q1 l) (h2 : intsAt w q2 sees) (hG : Glob w none0) :
    Calls Tryz.prog 4 #[.slice q1 l.length cp1, .slice q2 sees.length cp2] w (Res true w) := by
  have F1 := few_any q1 cp1 l w hl h1
  have S1 := Lib.hid (fun h : fewB l = true => few_sizes h)
  have E1 := Lib.hid h1
  have I1 := Lib.hid h2
  have GG := Lib.hid hG
  clear h1 hG h2
  go_enter Tryz.func4, Tryz.ntmps4
  go_wp2_with fail
  refine F1.mono ?_
  rintro _ w1 ⟨rfl, hx⟩
  have X1 := Lib.hid hx
  clear hx F1
  generalize fewB l = few1 at S1
  cases few1 with
  | false =>
    go_wp2_with fail
    go_ret
    exact ⟨rfl, X1.out⟩
  | true =>
  by_cases h60 : 60 < sees.length
  · have hd : decide ((sees.length : Int) > 60) = true := decide_eq_true (by omega)
    go_wp2_with fail
    go_ret
    exact ⟨rfl, X1.out⟩
  · have hd : decide ((sees.length : Int) > 60) = false := decide_eq_false (by omega)
    obtain ⟨hl30, hls⟩ := S1.out (by trivial)
    have HLS := Lib.hid hls
    clear S1 hls
    go_wp2_with fail
    refine (fed_any w1 (GG.out.ext X1.out)).mono ?_
    rintro _ w2 ⟨rfl, hx⟩
    have X2 := Lib.hid (ext_trans X1.out hx)
    clear hx X1
    have B2 := Lib.hid (ext_iff.1 X2.out)
    have DN := done_any q1 cp1 l w2 (by omega) HLS.out (E1.out.at B2.out (Nat.le_refl _)) (GG.out.ext X2.out)
    go_wp2_with fail
    refine DN.mono ?_
    rintro _ w3 ⟨sb, vb, V, F, A, vo, vr, vs, rfl, hd3⟩
    have D3 := Lib.hid hd3
    have X3 := Lib.hid (ext_trans X2.out hd3.st.ext)
    clear hd3 DN B2
    go_wp2_with fail
    refine (sfeed_any w3 V F sb vb _ secS _ D3.out.src).mono ?_
    rintro _ w4 ⟨v4, rfl, ho4, hb4⟩
    have D4 := Lib.hid (D3.out.ext (ext_of hb4))
    have X4 := Lib.hid (ext_trans X3.out (ext_of hb4))
    have HRU := Lib.hid (runs secS l)
    have OKL := Lib.hid (show (runM secS l).ok.length ≤ 1000 from by have := ok_len secS l; omega)
    obtain ⟨q4, c4, rfl⟩ := ownsRl_shape ho4
    have CAP := (ownsRl_cap' ho4).1
    have RA := Lib.hid (recsAt_owned ho4)
    have GV := Lib.hid (((GG.out.ext X2.out).step (D4.out.st.more (F' := V) (fun i hi => .inl (D4.out.sub i (D4.out.src.vault.2 i hi))))))
    clear ho4 hb4 D3 X3
    generalize runM secS l = R at D4 HRU OKL RA CAP
    have HLE := Lib.hid HRU.out.inv.len
    have hL1000 : R.S.L.length ≤ 1000 := by rw [HLE.out]; exact OKL.out
    have VI := Lib.hid D4.out.src.vault.1
    go_wp2_with fail
    refine (svault_any w4 V F sb vb _ secS _ D4.out.src).mono ?_
    rintro _ w5 ⟨rfl, rfl⟩
    go_wp2_with fail
    refine (rnew_any vb w4).mono ?_
    rintro _ w6 ⟨rb, D, rfl, hr6, hst6, _⟩
    have AG := Lib.hid (show agIn w4 w6 D rb vb 0 R from ⟨hr6, hst6⟩)
    clear hr6 hst6
    go_wp2_with fail
    go_loopw [11, 12] (fun nv iv wr => ∃ (n i : Nat) (D : Blk), n ≤ R.S.L.length ∧ i ≤ sees.length ∧ nv = .int .i64 n ∧ iv = .int .i64 i ∧ Hid (agIn w4 wr D rb vb n R)) (fun _ iv _ => sees.length - (intOf iv).toNat)
    case atStart => exact ⟨0, 0, D, Nat.zero_le _, Nat.zero_le _, rfl, rfl, AG⟩
    case round =>
      clear AG
      obtain ⟨n, i, D, hn, hi, rfl, rfl, AG⟩ := hrel
      by_cases hlt : i < sees.length ∧ 0 < R.S.L.length
      · obtain ⟨hlt, hL0⟩ := hlt
        have hz := List.getElem?_eq_getElem hlt
        obtain ⟨g2, o2, rfl, hg2, z0⟩ := intsAt_of I1.out (ext_trans X4.out AG.out.st.ext) i _ hz
        generalize sees[i] = z at z0
        have hkL := pickN_lt z R.S.L.length hL0
        have PK := fun (w : World) => pick_any z R.S.L.length w hL0 (by omega) _ rfl
        generalize pickN z R.S.L.length = k at PK hkL
        have hx := List.getElem?_eq_getElem hkL
        generalize R.S.L[k] = x at hx
        have hke : k < R.ok.length := by rw [← HLE.out]; exact hkL
        obtain ⟨t1, t2, t3, t4, _⟩ := HRU.out.inv.told k x _ hx (List.getElem?_eq_getElem hke)
        clear t1 t3 t4 hz
        have hlt' : (i : Int) < sees.length := by omega
        have hL0' : (0 : Int) < R.S.L.length := by omega
        have hsq := (late HRU.out n (by have := HLE.out; omega)).1
        have TL := foll_len HRU.out n (by have := HLE.out; omega)
        go_wp2_with fail
        refine (PK _).mono ?_
        rintro _ w7 ⟨rfl, hx7⟩
        have A7 := Lib.hid (AG.out.ext hx7)
        clear hx7 AG PK z0
        go_wp2_with fail
        refine (rcells_any w7 D rb vb _ _ A7.out.rdr (by omega)).mono ?_
        rintro _ w8 ⟨v8, rfl, ho8, _, hb8⟩
        have A8 := Lib.hid (A7.out.ext (ext_of hb8))
        have O8 := Lib.hid ho8
        clear ho8 hb8 A7
        have RQ := recsAt_row (recsAt_of RA.out (fun k hk => (ext_iff.1 A8.out.st.ext).block k hk) (ext_iff.1 A8.out.st.ext).size) hx
        obtain ⟨g, o, rfl, e0, e1, e2, e3, e4, hg⟩ := RQ
        have hlen8 : v8 = v8 := rfl
        clear hlen8
        obtain ⟨q8, c8, rfl⟩ := rows_shape O8.out
        have hrecs : recV x = #[.int .i64 x.seq, .string x.subject, .int .i64 x.gen, .string x.prev, .string x.body] := rfl
        rcases Nat.lt_trichotomy k n with hkn | hkn | hkn
        · -- it was read
          have RD := read_old x w8 D rb vb n _ A8.out.rdr (by omega) (by rw [hsq, t2]; omega)
          have hgt : decide ((k : Int) > n) = false := decide_eq_false (by omega)
          have heq : ((k : Int) == n) = false := beq_eq_false_iff_ne.2 (by omega)
          obtain ⟨q0, u0, g0, p0, b0⟩ := x
          unfold recV at RD
          dsimp only at RD e0 e1 e2 e3 e4
          clear hrecs t2 hx
          go_wp2_with fail
          refine RD.mono ?_
          rintro _ w9 ⟨rfl, hx9⟩
          have A9 := Lib.hid (A8.out.ext hx9)
          have O9 := Lib.hid (O8.out.kept (grown_below (ext_iff.1 hx9) none) (by simp))
          clear hx9 RD A8 O8 e0 e1 e2 e3 e4
          go_wp2_with fail
          refine (rcells_any w9 D rb vb _ _ A9.out.rdr (by omega)).mono ?_
          rintro _ w10 ⟨v10, rfl, ho10, _, hb10⟩
          have A10 := Lib.hid (A9.out.ext (ext_of hb10))
          have O10 := Lib.hid ho10
          have P10 := Lib.hid (O9.out.kept (grown_below hb10 none) (by simp))
          clear ho10 hb10 A9 O9
          obtain ⟨q10, c10, rfl⟩ := rows_shape O10.out
          have EQ := eqC_any q10 q8 c10 c8 _ _ w10 (by rw [sortC_len]; omega) (by rw [sortC_len]; omega) (cellsIn_of O10.out).1 (cellsIn_of P10.out).1
          rw [(allEq_cells _ _).2 rfl] at EQ
          go_wp2_with fail
          refine EQ.mono ?_
          rintro _ w11 ⟨rfl, hx11⟩
          have A11 := Lib.hid (A10.out.ext hx11)
          clear EQ hx11 A10 O10 P10
          go_wp2_with fail
          have RT := rat_any w11 D rb vb _ _ A11.out.rdr
          rw [hsq] at RT
          refine RT.mono ?_
          rintro _ w12 ⟨rfl, hx12⟩
          have A12 := Lib.hid (A11.out.ext hx12)
          clear RT hx12 A11
          go_wp2_with fail
          go_roundw
          case rel => exact ⟨n, i + 1, D, hn, hlt, rfl, by go_num, A12⟩
          case measure => simp [intOf]; omega
        · -- it is the next one
          subst hkn
          have RD := read_foll R HRU.out OKL.out k x hx w4 w8 V D rb vb _ VI.out GV.out A8.out.st A8.out.rdr
          have hgt : decide ((k : Int) > k) = false := decide_eq_false (by omega)
          have hsq1 := (late HRU.out (k + 1) (by omega)).1
          obtain ⟨q0, u0, g0, p0, b0⟩ := x
          unfold recV at RD
          dsimp only at RD e0 e1 e2 e3 e4
          clear hrecs t2 hx
          go_wp2_with fail
          refine RD.mono ?_
          rintro _ w9 ⟨rfl, D', hr9, hst9⟩
          have A9 := Lib.hid (show agIn w4 w9 D' rb vb (k + 1) R from ⟨hr9, A8.out.st.trans hst9⟩)
          clear hr9 hst9 RD A8 O8 e0 e1 e2 e3 e4
          go_wp2_with fail
          have RT := rat_any w9 D' rb vb _ _ A9.out.rdr
          rw [hsq1] at RT
          refine RT.mono ?_
          rintro _ w12 ⟨rfl, hx12⟩
          have A12 := Lib.hid (A9.out.ext hx12)
          clear RT hx12 A9
          go_wp2_with fail
          go_roundw
          case rel => exact ⟨k + 1, i + 1, D', hkL, hlt, by go_num, by go_num, A12⟩
          case measure => simp [intOf]; omega
        · -- it lacks one ahead
          have RD := read_far x w8 D rb vb n _ A8.out.rdr (by rw [hsq, t2]; omega)
          have hgt : decide ((k : Int) > n) = true := decide_eq_true (by omega)
          obtain ⟨q0, u0, g0, p0, b0⟩ := x
          unfold recV at RD
          dsimp only at RD e0 e1 e2 e3 e4
          clear hrecs t2 hx
          go_wp2_with fail
          refine RD.mono ?_
          rintro _ w9 ⟨rfl, hx9⟩
          have A9 := Lib.hid (A8.out.ext hx9)
          have O9 := Lib.hid (O8.out.kept (grown_below (ext_iff.1 hx9) none) (by simp))
          clear hx9 RD A8 O8 e0 e1 e2 e3 e4
          have TE := tell_any (errV 10) (.no 10) w9 (glob_in GV.out A9.out.st).err
          rw [show errNum (errV 10) = 10 from rfl] at TE
          go_wp2_with fail
          refine TE.mono ?_
          rintro _ w9' ⟨rfl, hx9⟩
          have A9' := Lib.hid (A9.out.ext hx9)
          have O9' := Lib.hid (O9.out.kept (grown_below (ext_iff.1 hx9) none) (by simp))
          clear hx9 TE A9 O9
          go_wp2_with fail
          refine (rcells_any w9' D rb vb _ _ A9'.out.rdr (by omega)).mono ?_
          rintro _ w10 ⟨v10, rfl, ho10, _, hb10⟩
          have A10 := Lib.hid (A9'.out.ext (ext_of hb10))
          have O10 := Lib.hid ho10
          have P10 := Lib.hid (O9'.out.kept (grown_below hb10 none) (by simp))
          clear ho10 hb10 A9' O9'
          obtain ⟨q10, c10, rfl⟩ := rows_shape O10.out
          have EQ := eqC_any q10 q8 c10 c8 _ _ w10 (by rw [sortC_len]; omega) (by rw [sortC_len]; omega) (cellsIn_of O10.out).1 (cellsIn_of P10.out).1
          rw [(allEq_cells _ _).2 rfl] at EQ
          go_wp2_with fail
          refine EQ.mono ?_
          rintro _ w11 ⟨rfl, hx11⟩
          have A11 := Lib.hid (A10.out.ext hx11)
          clear EQ hx11 A10 O10 P10
          go_wp2_with fail
          have RT := rat_any w11 D rb vb _ _ A11.out.rdr
          rw [hsq] at RT
          refine RT.mono ?_
          rintro _ w12 ⟨rfl, hx12⟩
          have A12 := Lib.hid (A11.out.ext hx12)
          clear RT hx12 A11
          go_wp2_with fail
          go_roundw
          case rel => exact ⟨n, i + 1, D, hn, hlt, rfl, by go_num, A12⟩
          case measure => simp [intOf]; omega
      · have X6 := Lib.hid (ext_trans X4.out AG.out.st.ext)
        have hno : i = sees.length ∨ R.S.L.length = 0 := by omega
        have CAPn : (n : Int) ≤ c4 := by omega
        have hn' : (n : Int) ≤ R.S.L.length := by omega
        have SX := Lib.hid (fun W (hx : ∃ x, W = ext wr x) => (D4.out.src.ext (ext_trans AG.out.st.ext hx)))
        have FX := Lib.hid (fun W (hx : ∃ x, W = ext wr x) => follow_any R HRU.out OKL.out n (by rw [← HRU.out.inv.len]; exact hn) q4 c4 W V vb _ (VI.out.ext (ext_trans AG.out.st.ext hx)) (GV.out.ext (ext_trans AG.out.st.ext hx)) (recsAt_take (recsAt_of RA.out (fun k hk => (ext_iff.1 (ext_trans AG.out.st.ext hx)).block k hk) (ext_iff.1 (ext_trans AG.out.st.ext hx)).size) n))
        have TL := foll_len HRU.out n (by rw [← HRU.out.inv.len]; exact hn)
        clear hlt
        by_cases hlt : i < sees.length
        · have hlt' : (i : Int) < sees.length := by omega
          have hL0 : ¬ 0 < R.S.L.length := by omega
          clear hno
          go_wp2_with fail
          refine wp_region_slots (frRa q1 l.length cp1 q2 sees.length cp2 sb vb vo vr q4 R.S.L.length c4 rb n i u4 u13 u14 u15 u16 u17 u61 u62 u63 u64 u65 u66 u67 u68 u69 u70 u71 u72 u73 u74 u75 u76 u77 u78 u79 u80 u81 u82 u83 u84 u85 u86 u87 u88 u89 u90 u91 u92 u93 u94 u95 u96 u97 u98 u99 u100 u101 u102 u103 u104 u105 u106 u107 u108 u109 u110 u111 u112 u113 u114) dstRa (fun _ => undef) (laysRa sb vb q4 R.S.L.length c4 n R wr) (fun L g w => ∃ x, w = ext wr x) (fun w w' => ∃ x, w' = ext w x) (by kernel_rfl) (by kernel_rfl) rfl ?_ (by kernel_rfl) (ext_refl _) ?_ ?_
          · exact fun j v w w' h hr => by unfold laysRa at hr ⊢; split at hr <;> first | exact hr | exact folV.kept hr h
          · refine ⟨?_, ?_, ?_, ?_, ?_, ?_, ?_, ?_, ?_, ?_, ?_, trivial⟩
            all_goals (intro L gs w1 hLi hdeps hR hC; refine ends_of fun Q hQ => ?_)
            · have HQ := fun (a' : Act) (va : Value) (w' : World) (h1 : a' = frRa q1 l.length cp1 q2 sees.length cp2 sb vb vo vr q4 R.S.L.length c4 rb n i u4 u13 u14 u15 u16 u17 u61 u62 u63 u64 u65 u66 u67 u68 u69 u70 u71 u72 u73 u74 u75 u76 u77 u78 u79 u80 u81 u82 u83 u84 u85 u86 u87 u88 u89 u90 u91 u92 u93 u94 u95 u96 u97 u98 u99 u100 u101 u102 u103 u104 u105 u106 u107 u108 u109 u110 u111 u112 u113 u114 (upd1 gs 116 va)) h2 (h3 : laysRa sb vb q4 R.S.L.length c4 n R wr 0 va w') h4 => hQ.out a' w' ⟨va, h1, h2, h3, h4⟩
              unfold frRa
              go_wp2_with fail
              exact HQ _ (.pointer (some ⟨sb, 0, none⟩)) _ (by simp only [frRa, upd1, Nat.reduceEqDiff, reduceIte]) (ext_refl _) rfl hC
            · have HQ := fun (a' : Act) (va : Value) (w' : World) (h1 : a' = frRa q1 l.length cp1 q2 sees.length cp2 sb vb vo vr q4 R.S.L.length c4 rb n i u4 u13 u14 u15 u16 u17 u61 u62 u63 u64 u65 u66 u67 u68 u69 u70 u71 u72 u73 u74 u75 u76 u77 u78 u79 u80 u81 u82 u83 u84 u85 u86 u87 u88 u89 u90 u91 u92 u93 u94 u95 u96 u97 u98 u99 u100 u101 u102 u103 u104 u105 u106 u107 u108 u109 u110 u111 u112 u113 u114 (upd1 gs 117 va)) h2 (h3 : laysRa sb vb q4 R.S.L.length c4 n R wr 1 va w') h4 => hQ.out a' w' ⟨va, h1, h2, h3, h4⟩
              have r0 : gs 116 = .pointer (some ⟨sb, 0, none⟩) := hR 0 (hdeps ⟨0, .data⟩ (by simp) rfl)
              unfold frRa
              go_wp2_with fail
              refine (svault_any w1 V F sb vb _ secS _ (SX.out w1 hC)).mono ?_
              rintro _ w5 ⟨rfl, rfl⟩
              go_wp2_with fail
              exact HQ _ (.pointer (some ⟨vb, 0, none⟩)) _ (by simp only [frRa, upd1, r0, Nat.reduceEqDiff, reduceIte]) (ext_refl _) rfl hC
            · have HQ := fun (a' : Act) (va : Value) (w' : World) (h1 : a' = frRa q1 l.length cp1 q2 sees.length cp2 sb vb vo vr q4 R.S.L.length c4 rb n i u4 u13 u14 u15 u16 u17 u61 u62 u63 u64 u65 u66 u67 u68 u69 u70 u71 u72 u73 u74 u75 u76 u77 u78 u79 u80 u81 u82 u83 u84 u85 u86 u87 u88 u89 u90 u91 u92 u93 u94 u95 u96 u97 u98 u99 u100 u101 u102 u103 u104 u105 u106 u107 u108 u109 u110 u111 u112 u113 u114 (upd1 gs 118 va)) h2 (h3 : laysRa sb vb q4 R.S.L.length c4 n R wr 2 va w') h4 => hQ.out a' w' ⟨va, h1, h2, h3, h4⟩
              unfold frRa
              go_wp2_with fail
              exact HQ _ (.slice q4 R.S.L.length c4) _ (by simp only [frRa, upd1, Nat.reduceEqDiff, reduceIte]) (ext_refl _) rfl hC
            · have HQ := fun (a' : Act) (va : Value) (w' : World) (h1 : a' = frRa q1 l.length cp1 q2 sees.length cp2 sb vb vo vr q4 R.S.L.length c4 rb n i u4 u13 u14 u15 u16 u17 u61 u62 u63 u64 u65 u66 u67 u68 u69 u70 u71 u72 u73 u74 u75 u76 u77 u78 u79 u80 u81 u82 u83 u84 u85 u86 u87 u88 u89 u90 u91 u92 u93 u94 u95 u96 u97 u98 u99 u100 u101 u102 u103 u104 u105 u106 u107 u108 u109 u110 u111 u112 u113 u114 (upd1 gs 119 va)) h2 (h3 : laysRa sb vb q4 R.S.L.length c4 n R wr 3 va w') h4 => hQ.out a' w' ⟨va, h1, h2, h3, h4⟩
              unfold frRa
              go_wp2_with fail
              exact HQ _ (.int .i64 n) _ (by simp only [frRa, upd1, Nat.reduceEqDiff, reduceIte]) (ext_refl _) rfl hC
            · have HQ := fun (a' : Act) (va : Value) (w' : World) (h1 : a' = frRa q1 l.length cp1 q2 sees.length cp2 sb vb vo vr q4 R.S.L.length c4 rb n i u4 u13 u14 u15 u16 u17 u61 u62 u63 u64 u65 u66 u67 u68 u69 u70 u71 u72 u73 u74 u75 u76 u77 u78 u79 u80 u81 u82 u83 u84 u85 u86 u87 u88 u89 u90 u91 u92 u93 u94 u95 u96 u97 u98 u99 u100 u101 u102 u103 u104 u105 u106 u107 u108 u109 u110 u111 u112 u113 u114 (upd1 gs 120 va)) h2 (h3 : laysRa sb vb q4 R.S.L.length c4 n R wr 4 va w') h4 => hQ.out a' w' ⟨va, h1, h2, h3, h4⟩
              have r2 : gs 118 = .slice q4 R.S.L.length c4 := hR 2 (hdeps ⟨2, .data⟩ (by simp) rfl)
              have r3 : gs 119 = .int .i64 n := hR 3 (hdeps ⟨3, .data⟩ (by simp) rfl)
              unfold frRa
              go_wp2_with fail
              exact HQ _ (.slice q4 n c4) _ (by simp only [frRa, upd1, r2, r3, Nat.reduceEqDiff, reduceIte]) (ext_refl _) rfl hC
            · have HQ := fun (a' : Act) (va : Value) (w' : World) (h1 : a' = frRa q1 l.length cp1 q2 sees.length cp2 sb vb vo vr q4 R.S.L.length c4 rb n i u4 u13 u14 u15 u16 u17 u61 u62 u63 u64 u65 u66 u67 u68 u69 u70 u71 u72 u73 u74 u75 u76 u77 u78 u79 u80 u81 u82 u83 u84 u85 u86 u87 u88 u89 u90 u91 u92 u93 u94 u95 u96 u97 u98 u99 u100 u101 u102 u103 u104 u105 u106 u107 u108 u109 u110 u111 u112 u113 u114 (upd1 gs 121 va)) h2 (h3 : laysRa sb vb q4 R.S.L.length c4 n R wr 5 va w') h4 => hQ.out a' w' ⟨va, h1, h2, h3, h4⟩
              have r1 : gs 117 = .pointer (some ⟨vb, 0, none⟩) := hR 1 (hdeps ⟨1, .data⟩ (by simp) rfl)
              have r4 : gs 120 = .slice q4 n c4 := hR 4 (hdeps ⟨4, .data⟩ (by simp) rfl)
              unfold frRa
              go_wp2_with fail
              refine (FX.out w1 hC).mono ?_
              rintro _ w5 ⟨rb2, D2, rfl, hr2, hs2⟩
              go_wp2_with fail
              exact HQ _ (.tuple #[.pointer (some ⟨rb2, 0, none⟩), .bool true]) _ (by simp only [frRa, upd1, r1, r4, Nat.reduceEqDiff, reduceIte]) hs2.ext ⟨rb2, D2, rfl, hr2, (step.of_ext none0 hC).trans hs2⟩ (ext_trans hC hs2.ext)
            · have HQ := fun (a' : Act) (va : Value) (w' : World) (h1 : a' = frRa q1 l.length cp1 q2 sees.length cp2 sb vb vo vr q4 R.S.L.length c4 rb n i u4 u13 u14 u15 u16 u17 u61 u62 u63 u64 u65 u66 u67 u68 u69 u70 u71 u72 u73 u74 u75 u76 u77 u78 u79 u80 u81 u82 u83 u84 u85 u86 u87 u88 u89 u90 u91 u92 u93 u94 u95 u96 u97 u98 u99 u100 u101 u102 u103 u104 u105 u106 u107 u108 u109 u110 u111 u112 u113 u114 (upd1 gs 115 va)) h2 (h3 : laysRa sb vb q4 R.S.L.length c4 n R wr 6 va w') h4 => hQ.out a' w' ⟨va, h1, h2, h3, h4⟩
              have r5 := hR 5 (hdeps ⟨5, .data⟩ (by simp) rfl)
              obtain ⟨rb2, D2, hv, hr2, hs2⟩ := r5
              change gs 121 = _ at hv
              unfold frRa
              go_wp2_with fail
              exact HQ _ (.tuple #[.pointer (some ⟨rb2, 0, none⟩), .bool true]) _ (by simp only [frRa, upd1, hv, Nat.reduceEqDiff, reduceIte]) (ext_refl _) ⟨rb2, D2, rfl, hr2, hs2⟩ hC
            · have HQ := fun (a' : Act) (va : Value) (w' : World) (h1 : a' = frRa q1 l.length cp1 q2 sees.length cp2 sb vb vo vr q4 R.S.L.length c4 rb n i u4 u13 u14 u15 u16 u17 u61 u62 u63 u64 u65 u66 u67 u68 u69 u70 u71 u72 u73 u74 u75 u76 u77 u78 u79 u80 u81 u82 u83 u84 u85 u86 u87 u88 u89 u90 u91 u92 u93 u94 u95 u96 u97 u98 u99 u100 u101 u102 u103 u104 u105 u106 u107 u108 u109 u110 u111 u112 u113 u114 (upd1 gs 122 va)) h2 (h3 : laysRa sb vb q4 R.S.L.length c4 n R wr 7 va w') h4 => hQ.out a' w' ⟨va, h1, h2, h3, h4⟩
              have r6 := hR 6 (hdeps ⟨6, .data⟩ (by simp) rfl)
              obtain ⟨rb2, D2, hv, hr2, hs2⟩ := r6
              change gs 115 = _ at hv
              unfold frRa
              go_wp2_with fail
              exact HQ _ (.pointer (some ⟨rb2, 0, none⟩)) _ (by simp only [frRa, upd1, hv, Nat.reduceEqDiff, reduceIte]) (ext_refl _) ⟨rb2, D2, rfl, hr2, hs2⟩ hC
            · have HQ := fun (a' : Act) (va : Value) (w' : World) (h1 : a' = frRa q1 l.length cp1 q2 sees.length cp2 sb vb vo vr q4 R.S.L.length c4 rb n i u4 u13 u14 u15 u16 u17 u61 u62 u63 u64 u65 u66 u67 u68 u69 u70 u71 u72 u73 u74 u75 u76 u77 u78 u79 u80 u81 u82 u83 u84 u85 u86 u87 u88 u89 u90 u91 u92 u93 u94 u95 u96 u97 u98 u99 u100 u101 u102 u103 u104 u105 u106 u107 u108 u109 u110 u111 u112 u113 u114 (upd1 gs 123 va)) h2 (h3 : laysRa sb vb q4 R.S.L.length c4 n R wr 8 va w') h4 => hQ.out a' w' ⟨va, h1, h2, h3, h4⟩
              have r6 := hR 6 (hdeps ⟨6, .data⟩ (by simp) rfl)
              obtain ⟨rb2, D2, hv, hr2, hs2⟩ := r6
              change gs 115 = _ at hv
              unfold frRa
              go_wp2_with fail
              exact HQ _ (.bool true) _ (by simp only [frRa, upd1, hv, Nat.reduceEqDiff, reduceIte]) (ext_refl _) rfl hC
            · have HQ := fun (a' : Act) (va : Value) (w' : World) (h1 : a' = frRa q1 l.length cp1 q2 sees.length cp2 sb vb vo vr q4 R.S.L.length c4 rb n i u4 u13 u14 u15 u16 u17 u61 u62 u63 u64 u65 u66 u67 u68 u69 u70 u71 u72 u73 u74 u75 u76 u77 u78 u79 u80 u81 u82 u83 u84 u85 u86 u87 u88 u89 u90 u91 u92 u93 u94 u95 u96 u97 u98 u99 u100 u101 u102 u103 u104 u105 u106 u107 u108 u109 u110 u111 u112 u113 u114 (upd1 gs 18 va)) h2 (h3 : laysRa sb vb q4 R.S.L.length c4 n R wr 9 va w') h4 => hQ.out a' w' ⟨va, h1, h2, h3, h4⟩
              have r7 := hR 7 (hdeps ⟨7, .data⟩ (by simp) rfl)
              obtain ⟨rb2, D2, hv, hr2, hs2⟩ := r7
              change gs 122 = _ at hv
              unfold frRa
              go_wp2_with fail
              exact HQ _ (.pointer (some ⟨rb2, 0, none⟩)) _ (by simp only [frRa, upd1, hv, Nat.reduceEqDiff, reduceIte]) (ext_refl _) ⟨rb2, D2, rfl, hr2, hs2⟩ hC
            · have HQ := fun (a' : Act) (va : Value) (w' : World) (h1 : a' = frRa q1 l.length cp1 q2 sees.length cp2 sb vb vo vr q4 R.S.L.length c4 rb n i u4 u13 u14 u15 u16 u17 u61 u62 u63 u64 u65 u66 u67 u68 u69 u70 u71 u72 u73 u74 u75 u76 u77 u78 u79 u80 u81 u82 u83 u84 u85 u86 u87 u88 u89 u90 u91 u92 u93 u94 u95 u96 u97 u98 u99 u100 u101 u102 u103 u104 u105 u106 u107 u108 u109 u110 u111 u112 u113 u114 (upd1 gs 19 va)) h2 (h3 : laysRa sb vb q4 R.S.L.length c4 n R wr 10 va w') h4 => hQ.out a' w' ⟨va, h1, h2, h3, h4⟩
              have r8 : gs 123 = .bool true := hR 8 (hdeps ⟨8, .data⟩ (by simp) rfl)
              unfold frRa
              go_wp2_with fail
              exact HQ _ (.bool true) _ (by simp only [frRa, upd1, r8, Nat.reduceEqDiff, reduceIte]) (ext_refl _) rfl hC
          intro L31 g31 w31 hall hR hC
          have r9 := hR 9 (by decide)
          have r10 : g31 19 = .bool true := hR 10 (by decide)
          obtain ⟨rb2, D2, hv, hr2, hs2⟩ := r9
          change g31 18 = _ at hv
          have R2 := Lib.hid hr2
          have A2 := Lib.hid (AG.out.ext hC)
          clear hall hR hC hr2 hs2 AG SX FX
          unfold frRa
          simp only [hv, r10]
          go_wp2_with fail
          refine (rcells_any w31 D2 rb2 vb _ _ R2.out (by omega)).mono ?_
          rintro _ w32 ⟨v32, rfl, ho32, _, hb32⟩
          have R3 := Lib.hid (R2.out.ext (ext_of hb32))
          have A3 := Lib.hid (A2.out.ext (ext_of hb32))
          have O3 := Lib.hid ho32
          clear ho32 hb32 R2 A2
          go_wp2_with fail
          refine (rcells_any w32 D rb vb _ _ A3.out.rdr (by omega)).mono ?_
          rintro _ w33 ⟨v33, rfl, ho33, _, hb33⟩
          have R4 := Lib.hid (R3.out.ext (ext_of hb33))
          have A4 := Lib.hid (A3.out.ext (ext_of hb33))
          have O4 := Lib.hid (O3.out.kept (grown_below hb33 none) (by simp))
          have P4 := Lib.hid ho33
          clear ho33 hb33 R3 A3 O3
          obtain ⟨q32, c32, rfl⟩ := rows_shape O4.out
          obtain ⟨q33, c33, rfl⟩ := rows_shape P4.out
          have EQ := eqC_any q32 q33 c32 c33 _ _ w33 (by rw [sortC_len]; omega) (by rw [sortC_len]; omega) (cellsIn_of O4.out).1 (cellsIn_of P4.out).1
          rw [(allEq_cells _ _).2 rfl] at EQ
          go_wp2_with fail
          refine EQ.mono ?_
          rintro _ w34 ⟨rfl, hx34⟩
          have R5 := Lib.hid (R4.out.ext hx34)
          have A5 := Lib.hid (A4.out.ext hx34)
          clear EQ hx34 R4 A4 O4 P4
          go_wp2_with fail
          refine (rlost_any w34 D2 rb2 vb _ _ R5.out).mono ?_
          rintro _ w35 ⟨rfl, rfl⟩
          go_wp2_with fail
          refine (rlost_any w34 D rb vb _ _ A5.out.rdr).mono ?_
          rintro _ w36 ⟨rfl, rfl⟩
          go_wp2_with fail
          go_ret
          exact ⟨rfl, ext_trans X4.out A5.out.st.ext⟩
        · obtain rfl : i = sees.length := by omega
          clear hno
          go_wp2_with fail
          refine wp_region_slots (frRb q1 l.length cp1 q2 sees.length cp2 sb vb vo vr q4 R.S.L.length c4 rb n u4 u13 u14 u15 u16 u17 u61 u62 u63 u64 u65 u66 u67 u68 u69 u70 u71 u72 u73 u74 u75 u76 u77 u78 u79 u80 u81 u82 u83 u84 u85 u86 u87 u88 u89 u90 u91 u92 u93 u94 u95 u96 u97 u98 u99 u100 u101 u102 u103 u104 u105 u106 u107 u108 u109 u110 u111 u112 u113 u114) dstRb (fun _ => undef) (laysRb sb vb q4 R.S.L.length c4 n R wr) (fun L g w => ∃ x, w = ext wr x) (fun w w' => ∃ x, w' = ext w x) (by kernel_rfl) (by kernel_rfl) rfl ?_ (by kernel_rfl) (ext_refl _) ?_ ?_
          · exact fun j v w w' h hr => by unfold laysRb at hr ⊢; split at hr <;> first | exact hr | exact folV.kept hr h
          · refine ⟨?_, ?_, ?_, ?_, ?_, ?_, ?_, ?_, ?_, ?_, ?_, trivial⟩
            all_goals (intro L gs w1 hLi hdeps hR hC; refine ends_of fun Q hQ => ?_)
            · have HQ := fun (a' : Act) (va : Value) (w' : World) (h1 : a' = frRb q1 l.length cp1 q2 sees.length cp2 sb vb vo vr q4 R.S.L.length c4 rb n u4 u13 u14 u15 u16 u17 u61 u62 u63 u64 u65 u66 u67 u68 u69 u70 u71 u72 u73 u74 u75 u76 u77 u78 u79 u80 u81 u82 u83 u84 u85 u86 u87 u88 u89 u90 u91 u92 u93 u94 u95 u96 u97 u98 u99 u100 u101 u102 u103 u104 u105 u106 u107 u108 u109 u110 u111 u112 u113 u114 (upd1 gs 116 va)) h2 (h3 : laysRb sb vb q4 R.S.L.length c4 n R wr 0 va w') h4 => hQ.out a' w' ⟨va, h1, h2, h3, h4⟩
              unfold frRb
              go_wp2_with fail
              exact HQ _ (.pointer (some ⟨sb, 0, none⟩)) _ (by simp only [frRb, upd1, Nat.reduceEqDiff, reduceIte]) (ext_refl _) rfl hC
            · have HQ := fun (a' : Act) (va : Value) (w' : World) (h1 : a' = frRb q1 l.length cp1 q2 sees.length cp2 sb vb vo vr q4 R.S.L.length c4 rb n u4 u13 u14 u15 u16 u17 u61 u62 u63 u64 u65 u66 u67 u68 u69 u70 u71 u72 u73 u74 u75 u76 u77 u78 u79 u80 u81 u82 u83 u84 u85 u86 u87 u88 u89 u90 u91 u92 u93 u94 u95 u96 u97 u98 u99 u100 u101 u102 u103 u104 u105 u106 u107 u108 u109 u110 u111 u112 u113 u114 (upd1 gs 117 va)) h2 (h3 : laysRb sb vb q4 R.S.L.length c4 n R wr 1 va w') h4 => hQ.out a' w' ⟨va, h1, h2, h3, h4⟩
              have r0 : gs 116 = .pointer (some ⟨sb, 0, none⟩) := hR 0 (hdeps ⟨0, .data⟩ (by simp) rfl)
              unfold frRb
              go_wp2_with fail
              refine (svault_any w1 V F sb vb _ secS _ (SX.out w1 hC)).mono ?_
              rintro _ w5 ⟨rfl, rfl⟩
              go_wp2_with fail
              exact HQ _ (.pointer (some ⟨vb, 0, none⟩)) _ (by simp only [frRb, upd1, r0, Nat.reduceEqDiff, reduceIte]) (ext_refl _) rfl hC
            · have HQ := fun (a' : Act) (va : Value) (w' : World) (h1 : a' = frRb q1 l.length cp1 q2 sees.length cp2 sb vb vo vr q4 R.S.L.length c4 rb n u4 u13 u14 u15 u16 u17 u61 u62 u63 u64 u65 u66 u67 u68 u69 u70 u71 u72 u73 u74 u75 u76 u77 u78 u79 u80 u81 u82 u83 u84 u85 u86 u87 u88 u89 u90 u91 u92 u93 u94 u95 u96 u97 u98 u99 u100 u101 u102 u103 u104 u105 u106 u107 u108 u109 u110 u111 u112 u113 u114 (upd1 gs 118 va)) h2 (h3 : laysRb sb vb q4 R.S.L.length c4 n R wr 2 va w') h4 => hQ.out a' w' ⟨va, h1, h2, h3, h4⟩
              unfold frRb
              go_wp2_with fail
              exact HQ _ (.slice q4 R.S.L.length c4) _ (by simp only [frRb, upd1, Nat.reduceEqDiff, reduceIte]) (ext_refl _) rfl hC
            · have HQ := fun (a' : Act) (va : Value) (w' : World) (h1 : a' = frRb q1 l.length cp1 q2 sees.length cp2 sb vb vo vr q4 R.S.L.length c4 rb n u4 u13 u14 u15 u16 u17 u61 u62 u63 u64 u65 u66 u67 u68 u69 u70 u71 u72 u73 u74 u75 u76 u77 u78 u79 u80 u81 u82 u83 u84 u85 u86 u87 u88 u89 u90 u91 u92 u93 u94 u95 u96 u97 u98 u99 u100 u101 u102 u103 u104 u105 u106 u107 u108 u109 u110 u111 u112 u113 u114 (upd1 gs 119 va)) h2 (h3 : laysRb sb vb q4 R.S.L.length c4 n R wr 3 va w') h4 => hQ.out a' w' ⟨va, h1, h2, h3, h4⟩
              unfold frRb
              go_wp2_with fail
              exact HQ _ (.int .i64 n) _ (by simp only [frRb, upd1, Nat.reduceEqDiff, reduceIte]) (ext_refl _) rfl hC
            · have HQ := fun (a' : Act) (va : Value) (w' : World) (h1 : a' = frRb q1 l.length cp1 q2 sees.length cp2 sb vb vo vr q4 R.S.L.length c4 rb n u4 u13 u14 u15 u16 u17 u61 u62 u63 u64 u65 u66 u67 u68 u69 u70 u71 u72 u73 u74 u75 u76 u77 u78 u79 u80 u81 u82 u83 u84 u85 u86 u87 u88 u89 u90 u91 u92 u93 u94 u95 u96 u97 u98 u99 u100 u101 u102 u103 u104 u105 u106 u107 u108 u109 u110 u111 u112 u113 u114 (upd1 gs 120 va)) h2 (h3 : laysRb sb vb q4 R.S.L.length c4 n R wr 4 va w') h4 => hQ.out a' w' ⟨va, h1, h2, h3, h4⟩
              have r2 : gs 118 = .slice q4 R.S.L.length c4 := hR 2 (hdeps ⟨2, .data⟩ (by simp) rfl)
              have r3 : gs 119 = .int .i64 n := hR 3 (hdeps ⟨3, .data⟩ (by simp) rfl)
              unfold frRb
              go_wp2_with fail
              exact HQ _ (.slice q4 n c4) _ (by simp only [frRb, upd1, r2, r3, Nat.reduceEqDiff, reduceIte]) (ext_refl _) rfl hC
            · have HQ := fun (a' : Act) (va : Value) (w' : World) (h1 : a' = frRb q1 l.length cp1 q2 sees.length cp2 sb vb vo vr q4 R.S.L.length c4 rb n u4 u13 u14 u15 u16 u17 u61 u62 u63 u64 u65 u66 u67 u68 u69 u70 u71 u72 u73 u74 u75 u76 u77 u78 u79 u80 u81 u82 u83 u84 u85 u86 u87 u88 u89 u90 u91 u92 u93 u94 u95 u96 u97 u98 u99 u100 u101 u102 u103 u104 u105 u106 u107 u108 u109 u110 u111 u112 u113 u114 (upd1 gs 121 va)) h2 (h3 : laysRb sb vb q4 R.S.L.length c4 n R wr 5 va w') h4 => hQ.out a' w' ⟨va, h1, h2, h3, h4⟩
              have r1 : gs 117 = .pointer (some ⟨vb, 0, none⟩) := hR 1 (hdeps ⟨1, .data⟩ (by simp) rfl)
              have r4 : gs 120 = .slice q4 n c4 := hR 4 (hdeps ⟨4, .data⟩ (by simp) rfl)
              unfold frRb
              go_wp2_with fail
              refine (FX.out w1 hC).mono ?_
              rintro _ w5 ⟨rb2, D2, rfl, hr2, hs2⟩
              go_wp2_with fail
              exact HQ _ (.tuple #[.pointer (some ⟨rb2, 0, none⟩), .bool true]) _ (by simp only [frRb, upd1, r1, r4, Nat.reduceEqDiff, reduceIte]) hs2.ext ⟨rb2, D2, rfl, hr2, (step.of_ext none0 hC).trans hs2⟩ (ext_trans hC hs2.ext)
            · have HQ := fun (a' : Act) (va : Value) (w' : World) (h1 : a' = frRb q1 l.length cp1 q2 sees.length cp2 sb vb vo vr q4 R.S.L.length c4 rb n u4 u13 u14 u15 u16 u17 u61 u62 u63 u64 u65 u66 u67 u68 u69 u70 u71 u72 u73 u74 u75 u76 u77 u78 u79 u80 u81 u82 u83 u84 u85 u86 u87 u88 u89 u90 u91 u92 u93 u94 u95 u96 u97 u98 u99 u100 u101 u102 u103 u104 u105 u106 u107 u108 u109 u110 u111 u112 u113 u114 (upd1 gs 115 va)) h2 (h3 : laysRb sb vb q4 R.S.L.length c4 n R wr 6 va w') h4 => hQ.out a' w' ⟨va, h1, h2, h3, h4⟩
              have r5 := hR 5 (hdeps ⟨5, .data⟩ (by simp) rfl)
              obtain ⟨rb2, D2, hv, hr2, hs2⟩ := r5
              change gs 121 = _ at hv
              unfold frRb
              go_wp2_with fail
              exact HQ _ (.tuple #[.pointer (some ⟨rb2, 0, none⟩), .bool true]) _ (by simp only [frRb, upd1, hv, Nat.reduceEqDiff, reduceIte]) (ext_refl _) ⟨rb2, D2, rfl, hr2, hs2⟩ hC
            · have HQ := fun (a' : Act) (va : Value) (w' : World) (h1 : a' = frRb q1 l.length cp1 q2 sees.length cp2 sb vb vo vr q4 R.S.L.length c4 rb n u4 u13 u14 u15 u16 u17 u61 u62 u63 u64 u65 u66 u67 u68 u69 u70 u71 u72 u73 u74 u75 u76 u77 u78 u79 u80 u81 u82 u83 u84 u85 u86 u87 u88 u89 u90 u91 u92 u93 u94 u95 u96 u97 u98 u99 u100 u101 u102 u103 u104 u105 u106 u107 u108 u109 u110 u111 u112 u113 u114 (upd1 gs 122 va)) h2 (h3 : laysRb sb vb q4 R.S.L.length c4 n R wr 7 va w') h4 => hQ.out a' w' ⟨va, h1, h2, h3, h4⟩
              have r6 := hR 6 (hdeps ⟨6, .data⟩ (by simp) rfl)
              obtain ⟨rb2, D2, hv, hr2, hs2⟩ := r6
              change gs 115 = _ at hv
              unfold frRb
              go_wp2_with fail
              exact HQ _ (.pointer (some ⟨rb2, 0, none⟩)) _ (by simp only [frRb, upd1, hv, Nat.reduceEqDiff, reduceIte]) (ext_refl _) ⟨rb2, D2, rfl, hr2, hs2⟩ hC
            · have HQ := fun (a' : Act) (va : Value) (w' : World) (h1 : a' = frRb q1 l.length cp1 q2 sees.length cp2 sb vb vo vr q4 R.S.L.length c4 rb n u4 u13 u14 u15 u16 u17 u61 u62 u63 u64 u65 u66 u67 u68 u69 u70 u71 u72 u73 u74 u75 u76 u77 u78 u79 u80 u81 u82 u83 u84 u85 u86 u87 u88 u89 u90 u91 u92 u93 u94 u95 u96 u97 u98 u99 u100 u101 u102 u103 u104 u105 u106 u107 u108 u109 u110 u111 u112 u113 u114 (upd1 gs 123 va)) h2 (h3 : laysRb sb vb q4 R.S.L.length c4 n R wr 8 va w') h4 => hQ.out a' w' ⟨va, h1, h2, h3, h4⟩
              have r6 := hR 6 (hdeps ⟨6, .data⟩ (by simp) rfl)
              obtain ⟨rb2, D2, hv, hr2, hs2⟩ := r6
              change gs 115 = _ at hv
              unfold frRb
              go_wp2_with fail
              exact HQ _ (.bool true) _ (by simp only [frRb, upd1, hv, Nat.reduceEqDiff, reduceIte]) (ext_refl _) rfl hC
            · have HQ := fun (a' : Act) (va : Value) (w' : World) (h1 : a' = frRb q1 l.length cp1 q2 sees.length cp2 sb vb vo vr q4 R.S.L.length c4 rb n u4 u13 u14 u15 u16 u17 u61 u62 u63 u64 u65 u66 u67 u68 u69 u70 u71 u72 u73 u74 u75 u76 u77 u78 u79 u80 u81 u82 u83 u84 u85 u86 u87 u88 u89 u90 u91 u92 u93 u94 u95 u96 u97 u98 u99 u100 u101 u102 u103 u104 u105 u106 u107 u108 u109 u110 u111 u112 u113 u114 (upd1 gs 18 va)) h2 (h3 : laysRb sb vb q4 R.S.L.length c4 n R wr 9 va w') h4 => hQ.out a' w' ⟨va, h1, h2, h3, h4⟩
              have r7 := hR 7 (hdeps ⟨7, .data⟩ (by simp) rfl)
              obtain ⟨rb2, D2, hv, hr2, hs2⟩ := r7
              change gs 122 = _ at hv
              unfold frRb
              go_wp2_with fail
              exact HQ _ (.pointer (some ⟨rb2, 0, none⟩)) _ (by simp only [frRb, upd1, hv, Nat.reduceEqDiff, reduceIte]) (ext_refl _) ⟨rb2, D2, rfl, hr2, hs2⟩ hC
            · have HQ := fun (a' : Act) (va : Value) (w' : World) (h1 : a' = frRb q1 l.length cp1 q2 sees.length cp2 sb vb vo vr q4 R.S.L.length c4 rb n u4 u13 u14 u15 u16 u17 u61 u62 u63 u64 u65 u66 u67 u68 u69 u70 u71 u72 u73 u74 u75 u76 u77 u78 u79 u80 u81 u82 u83 u84 u85 u86 u87 u88 u89 u90 u91 u92 u93 u94 u95 u96 u97 u98 u99 u100 u101 u102 u103 u104 u105 u106 u107 u108 u109 u110 u111 u112 u113 u114 (upd1 gs 19 va)) h2 (h3 : laysRb sb vb q4 R.S.L.length c4 n R wr 10 va w') h4 => hQ.out a' w' ⟨va, h1, h2, h3, h4⟩
              have r8 : gs 123 = .bool true := hR 8 (hdeps ⟨8, .data⟩ (by simp) rfl)
              unfold frRb
              go_wp2_with fail
              exact HQ _ (.bool true) _ (by simp only [frRb, upd1, r8, Nat.reduceEqDiff, reduceIte]) (ext_refl _) rfl hC
          intro L31 g31 w31 hall hR hC
          have r9 := hR 9 (by decide)
          have r10 : g31 19 = .bool true := hR 10 (by decide)
          obtain ⟨rb2, D2, hv, hr2, hs2⟩ := r9
          change g31 18 = _ at hv
          have R2 := Lib.hid hr2
          have A2 := Lib.hid (AG.out.ext hC)
          clear hall hR hC hr2 hs2 AG SX FX
          unfold frRb
          simp only [hv, r10]
          go_wp2_with fail
          refine (rcells_any w31 D2 rb2 vb _ _ R2.out (by omega)).mono ?_
          rintro _ w32 ⟨v32, rfl, ho32, _, hb32⟩
          have R3 := Lib.hid (R2.out.ext (ext_of hb32))
          have A3 := Lib.hid (A2.out.ext (ext_of hb32))
          have O3 := Lib.hid ho32
          clear ho32 hb32 R2 A2
          go_wp2_with fail
          refine (rcells_any w32 D rb vb _ _ A3.out.rdr (by omega)).mono ?_
          rintro _ w33 ⟨v33, rfl, ho33, _, hb33⟩
          have R4 := Lib.hid (R3.out.ext (ext_of hb33))
          have A4 := Lib.hid (A3.out.ext (ext_of hb33))
          have O4 := Lib.hid (O3.out.kept (grown_below hb33 none) (by simp))
          have P4 := Lib.hid ho33
          clear ho33 hb33 R3 A3 O3
          obtain ⟨q32, c32, rfl⟩ := rows_shape O4.out
          obtain ⟨q33, c33, rfl⟩ := rows_shape P4.out
          have EQ := eqC_any q32 q33 c32 c33 _ _ w33 (by rw [sortC_len]; omega) (by rw [sortC_len]; omega) (cellsIn_of O4.out).1 (cellsIn_of P4.out).1
          rw [(allEq_cells _ _).2 rfl] at EQ
          go_wp2_with fail
          refine EQ.mono ?_
          rintro _ w34 ⟨rfl, hx34⟩
          have R5 := Lib.hid (R4.out.ext hx34)
          have A5 := Lib.hid (A4.out.ext hx34)
          clear EQ hx34 R4 A4 O4 P4
          go_wp2_with fail
          refine (rlost_any w34 D2 rb2 vb _ _ R5.out).mono ?_
          rintro _ w35 ⟨rfl, rfl⟩
          go_wp2_with fail
          refine (rlost_any w34 D rb vb _ _ A5.out.rdr).mono ?_
          rintro _ w36 ⟨rfl, rfl⟩
          go_wp2_with fail
          go_ret
          exact ⟨rfl, ext_trans X4.out A5.out.st.ext⟩

theorem readerAgain_law (q1 : Option Addr) (cp1 : Nat) (l : List Ev) (q2 : Option Addr) (cp2 : Nat) (sees : List Int) (w : World) (hG : Glob w none0) (hl : l.length ≤ 9223372036854775807) (_ : l.length ≤ cp1) (h1 : evsAt w q1 l) (_ : q1 = none → l.length = 0 ∧ cp1 = 0) (hm : sees.length ≤ 9223372036854775807) (_ : sees.length ≤ cp2) (h2 : intsAt w q2 sees) :
    Calls Tryz.prog 4 #[.slice q1 l.length cp1, .slice q2 sees.length cp2] w (Res true w) := readerAgain_any q1 cp1 l q2 cp2 sees w hl hm h1 h2 hG
end Go.Proofs.YtafdigdopeahdaaGreatDoor
