/- oubliettelaw.VaultKeeps (the walk). -/
import Derived.Test.YtnmpchojhbmbmaaGreatDoorProg
import Derived.Test.YtnmpchojhbmbmaaGreatDoorG31
import Derived.Test.YtnmpchojhbmbmaaGreatDoorNameL
import Derived.Test.YtnmpchojhbmbmaaGreatDoorG13
import Derived.Deep.DeepCutAuto
import Derived.Deep.CutBlock
namespace Go.Proofs.YtnmpchojhbmbmaaGreatDoor
open Go.RowKit

theorem act_three {w : World} {p : Option Addr} {l : List ActD} (h : actsAt w p l) {j : Nat} {x : ActD} (hj : l[j]? = some x) :
    ∃ g o, p = some ⟨g, o, none⟩ ∧ g < w.heap.size ∧ w.cell? ⟨g, o + j * 3, none⟩ = some (.int .i64 x.what) ∧ w.cell? ⟨g, o + j * 3 + 1, none⟩ = some (.int .i64 x.gen) ∧ w.cell? ⟨g, o + j * 3 + 2, none⟩ = some (.string x.subject) := by
  rcases h with rfl | ⟨g, o, rfl, hg, hc⟩
  · simp at hj
  · exact ⟨g, o, rfl, hg, hc j x hj 0 _ rfl, hc j x hj 1 _ rfl, hc j x hj 2 _ rfl⟩
def frVf (ll : Nat) (cp : Nat) (sec : ByteArray) (vb : Nat) (wb : Nat) (rb : Nat) (ab : Nat) (k : Nat) (gn : Int) (s : ByteArray) (ga : Nat) (oa : Nat) (u4 : Value) (u12 : Value) (u13 : Value) (u14 : Value) (u15 : Value) (u16 : Value) (u17 : Value) (u18 : Value) (u19 : Value) (u20 : Value) (u21 : Value) (u60 : Value) (u61 : Value) (u73 : Value) (u74 : Value) (u75 : Value) (u76 : Value) (u77 : Value) (u78 : Value) (u79 : Value) (u80 : Value) (u81 : Value) (u82 : Value) (u83 : Value) (u84 : Value) (u85 : Value) (u86 : Value) (u87 : Value) (u88 : Value) (u89 : Value) (u90 : Value) (u91 : Value) (u92 : Value) (u93 : Value) (u94 : Value) (u95 : Value) (u96 : Value) (u97 : Value) (u98 : Value) (u99 : Value) (u100 : Value) (u101 : Value) (u102 : Value) (u115 : Value) (u116 : Value) (u117 : Value) (u118 : Value) (u119 : Value) (u120 : Value) (u121 : Value) (u122 : Value) (u123 : Value) (u124 : Value) (u125 : Value) (u126 : Value) (u127 : Value) (u128 : Value) (u129 : Value) (u130 : Value) (u131 : Value) (u132 : Value) (u133 : Value) (u134 : Value) (u135 : Value) (u136 : Value) (u137 : Value) (u138 : Value) (u139 : Value) (u140 : Value) (u141 : Value) (u142 : Value) (u143 : Value) (u144 : Value) (u145 : Value) (u146 : Value) (u147 : Value) (u148 : Value) (u149 : Value) (u150 : Value) (u151 : Value) (u152 : Value) (u153 : Value) (u154 : Value) (u155 : Value) (u156 : Value) (u157 : Value) (u158 : Value) (g : Nat → Value) : Act := { tmps := #[.string sec, .slice (some ⟨ga, oa, none⟩) ll cp, undef, undef, u4, .pointer (some ⟨rb, 0, none⟩), .pointer (some ⟨wb, 0, none⟩), .int .i64 0, .pointer (some ⟨vb, 0, none⟩), .nilIface, .int .i64 k, .pointer (some ⟨ab, 0, none⟩), u12, u13, u14, u15, u16, u17, u18, u19, u20, u21, .string sec, .bool false, .bool false, .slice (some ⟨ga, oa, none⟩) ll cp, .int .i64 ll, .bool (decide ((40 : Int) < (ll : Int))), .bool (decide ((40 : Int) < (ll : Int))), .pointer (some ⟨rb, 0, none⟩), .tuple #[.pointer (some ⟨wb, 0, none⟩), .int .i64 0], .pointer (some ⟨rb, 0, none⟩), .string sec, .tuple #[.pointer (some ⟨wb, 0, none⟩), .int .i64 0], .pointer (some ⟨wb, 0, none⟩), .int .i64 0, .tuple #[.pointer (some ⟨vb, 0, none⟩), .nilIface], .string sec, .tuple #[.pointer (some ⟨vb, 0, none⟩), .nilIface], .pointer (some ⟨vb, 0, none⟩), .nilIface, .nilIface, .int .i64 0, .bool true, .bool false, .bool false, .int .i64 0, .bool false, .bool false, undef, undef, undef, undef, undef, undef, undef, .int .i64 k, .slice (some ⟨ga, oa, none⟩) ll cp, .int .i64 ll, .bool true, u60, u61, .slice (some ⟨ga, oa, none⟩) ll cp, .int .i64 k, .pointer (some ⟨ga, oa + k * 3, none⟩), .agg #[.int .i64 1, .int .i64 gn, .string s], .pointer (some ⟨ab, 2, none⟩), .string s, .bool false, .pointer (some ⟨ab, 0, none⟩), .int .i64 1, .bool false, .bool false, u73, u74, u75, u76, u77, u78, u79, u80, u81, u82, u83, u84, u85, u86, u87, u88, u89, u90, u91, u92, u93, u94, u95, u96, u97, u98, u99, u100, u101, u102, .bool true, .bool true, g 105, g 106, g 107, g 108, g 109, g 110, g 111, g 112, g 113, g 114, u115, u116, u117, u118, u119, u120, u121, u122, u123, u124, u125, u126, u127, u128, u129, u130, u131, u132, u133, u134, u135, u136, u137, u138, u139, u140, u141, u142, u143, u144, u145, u146, u147, u148, u149, u150, u151, u152, u153, u154, u155, u156, u157, u158], defers := [] }
def dstVf (i : Nat) : Nat := ([105, 106, 107, 108, 109, 110, 111, 112, 113, 114] : List Nat).getD i (2000 + i)
def laysVf (vb : Nat) (wb : Nat) (ab : Nat) (s : ByteArray) (c : Int) (j : Nat) (v : Value) (_ : World) : Prop :=
  match j with
  | 0 => v = .pointer (some ⟨vb, 0, none⟩)
  | 1 => v = .pointer (some ⟨ab, 2, none⟩)
  | 2 => v = .string s
  | 3 => v = errOf c
  | 4 => v = .pointer (some ⟨wb, 0, none⟩)
  | 5 => v = .pointer (some ⟨ab, 2, none⟩)
  | 6 => v = .string s
  | 7 => v = .int .i64 c
  | 8 => v = .bool true
  | 9 => v = .bool false
  | _ => True
def frVr (ll : Nat) (cp : Nat) (sec : ByteArray) (vb : Nat) (wb : Nat) (rb : Nat) (ab : Nat) (k : Nat) (wh : Int) (gn : Int) (s : ByteArray) (c : Int) (kk : ByteArray) (ga : Nat) (oa : Nat) (u4 : Value) (u12 : Value) (u13 : Value) (u14 : Value) (u15 : Value) (u16 : Value) (u17 : Value) (u56 : Value) (u57 : Value) (u58 : Value) (u59 : Value) (u60 : Value) (u61 : Value) (u62 : Value) (u63 : Value) (u64 : Value) (u65 : Value) (u66 : Value) (u67 : Value) (u68 : Value) (u69 : Value) (u71 : Value) (u72 : Value) (u73 : Value) (u74 : Value) (u75 : Value) (u76 : Value) (u77 : Value) (u78 : Value) (u79 : Value) (u80 : Value) (u81 : Value) (u82 : Value) (u83 : Value) (u84 : Value) (u85 : Value) (u86 : Value) (u87 : Value) (u88 : Value) (u89 : Value) (u90 : Value) (u91 : Value) (u92 : Value) (u93 : Value) (u94 : Value) (u95 : Value) (u96 : Value) (u97 : Value) (u98 : Value) (u99 : Value) (u100 : Value) (u101 : Value) (u102 : Value) (u103 : Value) (u104 : Value) (u105 : Value) (u106 : Value) (u107 : Value) (u108 : Value) (u109 : Value) (u110 : Value) (u111 : Value) (u112 : Value) (u113 : Value) (u114 : Value) (g : Nat → Value) : Act := { tmps := #[.string sec, .slice (some ⟨ga, oa, none⟩) ll cp, undef, undef, u4, .pointer (some ⟨rb, 0, none⟩), .pointer (some ⟨wb, 0, none⟩), .int .i64 0, .pointer (some ⟨vb, 0, none⟩), .nilIface, .int .i64 k, .pointer (some ⟨ab, 0, none⟩), u12, u13, u14, u15, u16, u17, .string kk, .int .i64 c, .string kk, errOf c, .string sec, .bool false, .bool false, .slice (some ⟨ga, oa, none⟩) ll cp, .int .i64 ll, .bool (decide ((40 : Int) < (ll : Int))), .bool (decide ((40 : Int) < (ll : Int))), .pointer (some ⟨rb, 0, none⟩), .tuple #[.pointer (some ⟨wb, 0, none⟩), .int .i64 0], .pointer (some ⟨rb, 0, none⟩), .string sec, .tuple #[.pointer (some ⟨wb, 0, none⟩), .int .i64 0], .pointer (some ⟨wb, 0, none⟩), .int .i64 0, .tuple #[.pointer (some ⟨vb, 0, none⟩), .nilIface], .string sec, .tuple #[.pointer (some ⟨vb, 0, none⟩), .nilIface], .pointer (some ⟨vb, 0, none⟩), .nilIface, .nilIface, .int .i64 0, .bool true, .bool false, .bool false, .int .i64 0, .bool false, .bool false, undef, undef, undef, undef, undef, undef, undef, u56, u57, u58, u59, u60, u61, u62, u63, u64, u65, u66, u67, u68, u69, .int .i64 wh, u71, u72, u73, u74, u75, u76, u77, u78, u79, u80, u81, u82, u83, u84, u85, u86, u87, u88, u89, u90, u91, u92, u93, u94, u95, u96, u97, u98, u99, u100, u101, u102, u103, u104, u105, u106, u107, u108, u109, u110, u111, u112, u113, u114, .tuple #[.string kk, .int .i64 c], .pointer (some ⟨wb, 0, none⟩), .pointer (some ⟨ab, 2, none⟩), .string s, .pointer (some ⟨ab, 1, none⟩), .int .i64 gn, .tuple #[.string kk, .int .i64 c], .string kk, .int .i64 c, .tuple #[.string kk, errOf c], .pointer (some ⟨vb, 0, none⟩), .pointer (some ⟨ab, 2, none⟩), .string s, .pointer (some ⟨ab, 1, none⟩), .int .i64 gn, .tuple #[.string kk, errOf c], .string kk, errOf c, g 133, g 134, g 135, g 136, g 137, g 138, g 139, g 140, g 141, g 142, g 143, g 144, g 145, g 146, g 147, g 148, g 149, g 150, g 151, g 152, g 153, g 154, g 155, g 156, g 157, g 158], defers := [] }
def dstVr (i : Nat) : Nat := ([133, 134, 135, 136, 137, 138, 139, 140, 141, 142, 143, 144, 145, 146, 147, 148, 149, 150, 151, 152, 153, 154, 155, 156, 157, 158] : List Nat).getD i (2000 + i)
def laysVr (vb : Nat) (wb : Nat) (ab : Nat) (s : ByteArray) (c : Int) (kk : ByteArray) (T2 : List (ByteArray × Txt)) (j : Nat) (v : Value) (w : World) : Prop :=
  match j with
  | 0 => v = errOf c
  | 1 => v = .int .i64 c
  | 2 => v = .bool true
  | 3 => v = .bool false
  | 4 => v = .bool false
  | 5 => v = .string kk
  | 6 => v = .string kk
  | 7 => v = .bool false
  | 8 => v = .bool false
  | 9 => v = .bool false
  | 10 => v = .pointer (some ⟨vb, 0, none⟩)
  | 11 => txS w v (subjL T2)
  | 12 => v = .pointer (some ⟨wb, 0, none⟩)
  | 13 => txS w v (subjL T2)
  | 14 => v = .bool true
  | 15 => v = .bool false
  | 16 => v = .bool false
  | 17 => v = .bool false
  | 18 => v = .pointer (some ⟨ab, 2, none⟩)
  | 19 => v = .string s
  | 20 => v = .bool (nameB s.data.toList)
  | 21 => v = .pointer (some ⟨ab, 2, none⟩)
  | 22 => v = .string s
  | 23 => v = .bool (nameB s.data.toList)
  | 24 => v = .bool false
  | 25 => v = .bool false
  | _ => True
set_option maxRecDepth 100000 in
set_option maxHeartbeats 8000000 in
theorem vk_any (sec : ByteArray) (q : Option Addr) (es : List ActD) (cp : Nat) (wz : World) (hR : Rounds wz) (hE : ErrT wz) (hp : actsAt wz q es) :
    Calls Tryz.prog 3 #[.string sec, .slice q es.length cp] wz (Res true wz) := by
  have RR := Lib.hid hR
  have EE := Lib.hid hE
  have PP := Lib.hid hp
  have LS := fun w => long_any sec w
  clear hR hE hp
  cases hl : decide ((60 : Int) < sec.size) with
  | true =>
    rw [hl] at LS
    clear hl
    go_enter Tryz.func3, Tryz.ntmps3
    go_wp2_with fail
    refine (LS _).mono ?_
    rintro _ w1 ⟨rfl, rfl⟩
    go_wp2_with fail
    go_ret
    exact ⟨rfl, ext_refl _⟩
  | false =>
    rw [hl] at LS
    clear hl
    by_cases h40 : (40 : Int) < (es.length : Int)
    · go_enter Tryz.func3, Tryz.ntmps3
      go_wp2_with fail
      refine (LS _).mono ?_
      rintro _ w1 ⟨rfl, rfl⟩
      go_wp2_with fail
      go_ret
      exact ⟨rfl, ext_refl _⟩
    by_cases h16 : sec.size = 16
    · have H40 := Lib.hid h40
      have H16 := Lib.hid h16
      clear h16
      go_enter Tryz.func3, Tryz.ntmps3
      go_wp2_with fail
      refine (LS _).mono ?_
      rintro _ w1 ⟨rfl, rfl⟩
      go_wp2_with fail
      refine (new_any _).mono ?_
      rintro _ w2 ⟨rb, rfl, hr, hb, hx⟩
      have X2 := Lib.hid hx
      have R2 := Lib.hid hr
      have L2 := Lib.hid (show wz.heap.size ≤ rb ∧ wz.heap.size ≤ w2.heap.size from ⟨hb, (ext_iff.1 hx).size⟩)
      clear hr hb hx
      go_wp2_with fail
      refine (rvnew_any rb sec w2 H16.out R2.out).mono ?_
      rintro _ w3 ⟨wb, hb, sb, rfl, hv, hlo, hx⟩
      have X3 := Lib.hid (ext_trans X2.out hx)
      have V3 := Lib.hid hv
      have L3 := Lib.hid hlo
      clear hv hlo hx
      go_wp2_with fail
      refine (vnew_any sec w3 H16.out).mono ?_
      rintro _ w4 ⟨vb, mb, tb, rfl, hv, hlo, hx⟩
      have I4 : Hid (vkI wz vb mb tb wb rb hb sb sec 0 [] [] [] [] w4) := Lib.hid (by
        obtain ⟨s1, s2, s3, s4⟩ := V3.out.lt
        have l2 := L2.out
        have l3 := L3.out
        exact ⟨hv, V3.out.ext hx, ext_iff.1 (ext_trans X3.out hx), by omega, w3.heap.size, by omega, by omega⟩)
      clear hv hlo hx X2 R2 L2 X3 V3 L3
      go_wp2_with fail
      refine (bare_any .nilIface (errOf_is 0) 0 w4 (ErrT_low EE.out I4.out.b)).mono ?_
      rintro _ w5 ⟨rfl, hx⟩
      have I5 := Lib.hid (I4.out.ext hx)
      clear hx I4
      rw [show (errNum .nilIface == 0) = true from rfl]
      go_wp2_with fail
      clear LS
      have hcnt : es.length ≤ 40 := by omega
      go_loopw [10] (fun iv wr => ∃ (k n : Nat) (M : List (ByteArray × I64)) (T : List (ByteArray × Txt)) (B : List (ByteArray × Bool)), k ≤ es.length ∧ iv = .int .i64 k ∧ Hid (n ≤ 4 * k) ∧ Hid (vkI wz vb mb tb wb rb hb sb sec n M T M B wr) ∧ Hid (relV sec k M T B)) (fun iv _ => es.length - (intOf iv).toNat)
      case atStart => exact ⟨0, 0, [], [], [], Nat.zero_le _, rfl, Lib.hid (Nat.le_refl _), I5, Lib.hid (relV.nil sec)⟩
      case round =>
        clear I5
        obtain ⟨k, n, M, T, B, hk, rfl, HN, HI, HRL⟩ := hrel
        by_cases hlt : k < es.length
        · have hx := List.getElem?_eq_getElem hlt
          have hbl := HI.out.b
          obtain ⟨ga, oa, rfl, lta, a0, a1, a2⟩ := act_three (actsAt_of PP.out (fun _ hj => hbl.block _ hj) hbl.size) hx
          generalize hxe : es[k] = x at a0 a1 a2
          have hlt' : (k : Int) < es.length := by omega
          clear hx hbl hxe
          obtain ⟨wh, gn, s⟩ := x
          dsimp only at a0 a1 a2
          have LS := fun w => long_any s w
          go_wp2_with fail
          have XA := Lib.hid (HI.out.act ⟨wh, gn, s⟩)
          clear a0 a1 a2 lta HI
          dsimp only at XA
          generalize wr.alloc (.cells #[.int .i64 wh, .int .i64 gn, .string s] 37) = wa at XA ⊢
          generalize hab : wr.heap.size = ab at XA ⊢
          refine (LS _).mono ?_
          rintro _ w6 ⟨rfl, rfl⟩
          cases hls : decide ((60 : Int) < s.size) with
          | true =>
            have HX := Lib.hid (ext_of XA.out.i.b)
            clear XA HRL HN hls
            go_wp2_with fail
            go_ret
            exact ⟨rfl, HX.out⟩
          | false =>
            have hsz : s.size ≤ 60 := by have := of_decide_eq_false hls; omega
            clear hls LS
            obtain ⟨c0, c1, c2, lab⟩ := XA.out.cells
            dsimp only at c0 c1 c2
            have hn6 : n ≤ 1000000 := by have := HN.out; omega
            have hsec : sec.size ≤ 1048576 := by have := H16.out; omega
            have hsz' : s.size ≤ 1048576 := by omega
            have hszm : s.size ≤ maxLen := by unfold maxLen; omega
            have SZ := Lib.hid (And.intro hn6 (And.intro hsec (And.intro hsz' hszm)))
            clear hn6 hsec hsz' hszm hsz
            go_upto_block 2 with fail
            go_cut [] (fun wc => ∃ (n2 : Nat) (M2 : List (ByteArray × I64)) (T2 : List (ByteArray × Txt)) (B2 : List (ByteArray × Bool)), Hid (n2 ≤ 4 * k + 4) ∧ Hid (vkX wz vb mb tb wb rb hb sb sec ab ⟨wh, gn, s⟩ n2 M2 T2 M2 B2 wc) ∧ Hid (relV sec (k + 1) M2 T2 B2))
            case first =>
              by_cases h0 : wh = 0
              · subst h0
                have MS := Lib.hid (HRL.out.make_says s)
                have FW := Lib.hid (HRL.out.few s)
                go_wp2_with fail
                refine (XA.out.rmake s SZ.out.2.2.1 SZ.out.2.1 SZ.out.1 (by have := FW.out; omega)).mono ?_
                rintro _ w7 ⟨rfl, hX⟩
                rw [HRL.out.makeH s] at hX
                have X7 := Lib.hid hX
                clear hX XA
                obtain ⟨m, ks, c, e1, e2⟩ := MS.out
                rw [e2]
                have E1 := Lib.hid e1
                clear e1 e2 MS
                obtain ⟨c0, c1, c2, lab2⟩ := X7.out.cells
                dsimp only at c0 c1 c2
                go_wp2_with fail
                refine (X7.out.vmake RR.out s SZ.out.2.2.1 SZ.out.2.1 (by have := HN.out; omega) (by have := FW.out; omega)).mono ?_
                rintro _ w8 ⟨rfl, hX⟩
                have X8 := Lib.hid hX
                clear hX X7 c0 c1 c2 lab2
                rw [E1.out]
                clear E1
                go_wp2_with fail
                refine (bare_any (errOf c) (errOf_is c) c w8 (ErrT_low EE.out X8.out.i.b)).mono ?_
                rintro _ w9 ⟨rfl, hx⟩
                rw [errOf_num c]
                have X9 := Lib.hid (X8.out.ext hx)
                clear hx X8
                go_wp2_with fail
                go_meet
                case rel => exact ⟨n + 4, _, _, _, Lib.hid (by have := HN.out; omega), X9, Lib.hid (HRL.out.make s (by omega))⟩
              · have hb0 : (wh == 0) = false := by simp [h0]
                have H0 := Lib.hid h0
                clear h0
                by_cases h1 : wh = 1
                · subst h1
                  go_wp2_with fail
                  have FS := Lib.hid (HRL.out.forget_says s)
                  generalize hc : (if (findS s B).getD false = true then (0 : Int) else 8) = c at FS
                  have FB := Lib.hid hc
                  clear hc
                  refine wp_region_slots (frVf es.length cp sec vb wb rb ab k gn s ga oa u4 u12 u13 u14 u15 u16 u17 u18 u19 u20 u21 u60 u61 u73 u74 u75 u76 u77 u78 u79 u80 u81 u82 u83 u84 u85 u86 u87 u88 u89 u90 u91 u92 u93 u94 u95 u96 u97 u98 u99 u100 u101 u102 u115 u116 u117 u118 u119 u120 u121 u122 u123 u124 u125 u126 u127 u128 u129 u130 u131 u132 u133 u134 u135 u136 u137 u138 u139 u140 u141 u142 u143 u144 u145 u146 u147 u148 u149 u150 u151 u152 u153 u154 u155 u156 u157 u158) dstVf (fun k => if k = 105 then u105 else if k = 106 then u106 else if k = 107 then u107 else if k = 108 then u108 else if k = 109 then u109 else if k = 110 then u110 else if k = 111 then u111 else if k = 112 then u112 else if k = 113 then u113 else if k = 114 then u114 else undef) (laysVf vb wb ab s c) (fun L g w => vkX wz vb mb tb wb rb hb sb sec ab ⟨1, gn, s⟩ (if L 7 = true then n + 1 else n) M (if L 3 = true then (if (findS s T).isSome = true then delS s T else T) else T) M (if L 7 = true then (if (findS s B).getD false = true then putS s false B else B) else B) w) (fun w w' => True) (by kernel_rfl) (by kernel_rfl) rfl ?_ (by kernel_rfl) (XA.out.ext (ext_drew (ext_refl _))) ?_ ?_
                  · exact fun _ _ _ _ _ h => h
                  · refine ⟨?_, ?_, ?_, ?_, ?_, ?_, ?_, ?_, ?_, ?_, trivial⟩
                    all_goals (intro L gs w1 hLi hdeps hR hC; refine ends_of fun Q hQ => ?_)
                    · have HQ := fun (a' : Act) (va : Value) (w' : World) (h1 : a' = frVf es.length cp sec vb wb rb ab k gn s ga oa u4 u12 u13 u14 u15 u16 u17 u18 u19 u20 u21 u60 u61 u73 u74 u75 u76 u77 u78 u79 u80 u81 u82 u83 u84 u85 u86 u87 u88 u89 u90 u91 u92 u93 u94 u95 u96 u97 u98 u99 u100 u101 u102 u115 u116 u117 u118 u119 u120 u121 u122 u123 u124 u125 u126 u127 u128 u129 u130 u131 u132 u133 u134 u135 u136 u137 u138 u139 u140 u141 u142 u143 u144 u145 u146 u147 u148 u149 u150 u151 u152 u153 u154 u155 u156 u157 u158 (upd1 gs 105 va)) h2 (h3 : laysVf vb wb ab s c 0 va w') h4 => hQ.out a' w' ⟨va, h1, h2, h3, h4⟩
                      unfold frVf
                      go_wp2_with fail
                      exact HQ _ (.pointer (some ⟨vb, 0, none⟩)) _ (by simp only [frVf, upd1, Nat.reduceEqDiff, reduceIte]) trivial rfl hC
                    · have HQ := fun (a' : Act) (va : Value) (w' : World) (h1 : a' = frVf es.length cp sec vb wb rb ab k gn s ga oa u4 u12 u13 u14 u15 u16 u17 u18 u19 u20 u21 u60 u61 u73 u74 u75 u76 u77 u78 u79 u80 u81 u82 u83 u84 u85 u86 u87 u88 u89 u90 u91 u92 u93 u94 u95 u96 u97 u98 u99 u100 u101 u102 u115 u116 u117 u118 u119 u120 u121 u122 u123 u124 u125 u126 u127 u128 u129 u130 u131 u132 u133 u134 u135 u136 u137 u138 u139 u140 u141 u142 u143 u144 u145 u146 u147 u148 u149 u150 u151 u152 u153 u154 u155 u156 u157 u158 (upd1 gs 106 va)) h2 (h3 : laysVf vb wb ab s c 1 va w') h4 => hQ.out a' w' ⟨va, h1, h2, h3, h4⟩
                      unfold frVf
                      go_wp2_with fail
                      exact HQ _ (.pointer (some ⟨ab, 2, none⟩)) _ (by simp only [frVf, upd1, Nat.reduceEqDiff, reduceIte]) trivial rfl hC
                    · have HQ := fun (a' : Act) (va : Value) (w' : World) (h1 : a' = frVf es.length cp sec vb wb rb ab k gn s ga oa u4 u12 u13 u14 u15 u16 u17 u18 u19 u20 u21 u60 u61 u73 u74 u75 u76 u77 u78 u79 u80 u81 u82 u83 u84 u85 u86 u87 u88 u89 u90 u91 u92 u93 u94 u95 u96 u97 u98 u99 u100 u101 u102 u115 u116 u117 u118 u119 u120 u121 u122 u123 u124 u125 u126 u127 u128 u129 u130 u131 u132 u133 u134 u135 u136 u137 u138 u139 u140 u141 u142 u143 u144 u145 u146 u147 u148 u149 u150 u151 u152 u153 u154 u155 u156 u157 u158 (upd1 gs 107 va)) h2 (h3 : laysVf vb wb ab s c 2 va w') h4 => hQ.out a' w' ⟨va, h1, h2, h3, h4⟩
                      have r1 : gs 106 = .pointer (some ⟨ab, 2, none⟩) := hR 1 (hdeps ⟨1, .data⟩ (by simp) rfl)
                      obtain ⟨c0, c1, c2, lab'⟩ := hC.cells
                      dsimp only at c0 c1 c2
                      unfold frVf
                      go_wp2_with fail
                      exact HQ _ (.string s) _ (by simp only [frVf, upd1, r1, Nat.reduceEqDiff, reduceIte]) trivial rfl hC
                    · have HQ := fun (a' : Act) (va : Value) (w' : World) (h1 : a' = frVf es.length cp sec vb wb rb ab k gn s ga oa u4 u12 u13 u14 u15 u16 u17 u18 u19 u20 u21 u60 u61 u73 u74 u75 u76 u77 u78 u79 u80 u81 u82 u83 u84 u85 u86 u87 u88 u89 u90 u91 u92 u93 u94 u95 u96 u97 u98 u99 u100 u101 u102 u115 u116 u117 u118 u119 u120 u121 u122 u123 u124 u125 u126 u127 u128 u129 u130 u131 u132 u133 u134 u135 u136 u137 u138 u139 u140 u141 u142 u143 u144 u145 u146 u147 u148 u149 u150 u151 u152 u153 u154 u155 u156 u157 u158 (upd1 gs 108 va)) h2 (h3 : laysVf vb wb ab s c 3 va w') h4 => hQ.out a' w' ⟨va, h1, h2, h3, h4⟩
                      have r0 : gs 105 = .pointer (some ⟨vb, 0, none⟩) := hR 0 (hdeps ⟨0, .data⟩ (by simp) rfl)
                      have r2 : gs 107 = .string s := hR 2 (hdeps ⟨2, .data⟩ (by simp) rfl)
                      have hC3 := hC
                      simp only [hLi, Bool.false_eq_true, if_false] at hC3
                      clear hC
                      unfold frVf
                      go_wp2_with fail
                      refine (hC3.vforget s SZ.out.2.2.2).mono ?_
                      rintro _ w5 ⟨rfl, hX⟩
                      rw [FS.out]
                      go_wp2_with fail
                      exact HQ _ (errOf c) _ (by simp only [frVf, upd1, r0, r2, Nat.reduceEqDiff, reduceIte]) trivial rfl hX
                    · have HQ := fun (a' : Act) (va : Value) (w' : World) (h1 : a' = frVf es.length cp sec vb wb rb ab k gn s ga oa u4 u12 u13 u14 u15 u16 u17 u18 u19 u20 u21 u60 u61 u73 u74 u75 u76 u77 u78 u79 u80 u81 u82 u83 u84 u85 u86 u87 u88 u89 u90 u91 u92 u93 u94 u95 u96 u97 u98 u99 u100 u101 u102 u115 u116 u117 u118 u119 u120 u121 u122 u123 u124 u125 u126 u127 u128 u129 u130 u131 u132 u133 u134 u135 u136 u137 u138 u139 u140 u141 u142 u143 u144 u145 u146 u147 u148 u149 u150 u151 u152 u153 u154 u155 u156 u157 u158 (upd1 gs 109 va)) h2 (h3 : laysVf vb wb ab s c 4 va w') h4 => hQ.out a' w' ⟨va, h1, h2, h3, h4⟩
                      unfold frVf
                      go_wp2_with fail
                      exact HQ _ (.pointer (some ⟨wb, 0, none⟩)) _ (by simp only [frVf, upd1, Nat.reduceEqDiff, reduceIte]) trivial rfl hC
                    · have HQ := fun (a' : Act) (va : Value) (w' : World) (h1 : a' = frVf es.length cp sec vb wb rb ab k gn s ga oa u4 u12 u13 u14 u15 u16 u17 u18 u19 u20 u21 u60 u61 u73 u74 u75 u76 u77 u78 u79 u80 u81 u82 u83 u84 u85 u86 u87 u88 u89 u90 u91 u92 u93 u94 u95 u96 u97 u98 u99 u100 u101 u102 u115 u116 u117 u118 u119 u120 u121 u122 u123 u124 u125 u126 u127 u128 u129 u130 u131 u132 u133 u134 u135 u136 u137 u138 u139 u140 u141 u142 u143 u144 u145 u146 u147 u148 u149 u150 u151 u152 u153 u154 u155 u156 u157 u158 (upd1 gs 110 va)) h2 (h3 : laysVf vb wb ab s c 5 va w') h4 => hQ.out a' w' ⟨va, h1, h2, h3, h4⟩
                      unfold frVf
                      go_wp2_with fail
                      exact HQ _ (.pointer (some ⟨ab, 2, none⟩)) _ (by simp only [frVf, upd1, Nat.reduceEqDiff, reduceIte]) trivial rfl hC
                    · have HQ := fun (a' : Act) (va : Value) (w' : World) (h1 : a' = frVf es.length cp sec vb wb rb ab k gn s ga oa u4 u12 u13 u14 u15 u16 u17 u18 u19 u20 u21 u60 u61 u73 u74 u75 u76 u77 u78 u79 u80 u81 u82 u83 u84 u85 u86 u87 u88 u89 u90 u91 u92 u93 u94 u95 u96 u97 u98 u99 u100 u101 u102 u115 u116 u117 u118 u119 u120 u121 u122 u123 u124 u125 u126 u127 u128 u129 u130 u131 u132 u133 u134 u135 u136 u137 u138 u139 u140 u141 u142 u143 u144 u145 u146 u147 u148 u149 u150 u151 u152 u153 u154 u155 u156 u157 u158 (upd1 gs 111 va)) h2 (h3 : laysVf vb wb ab s c 6 va w') h4 => hQ.out a' w' ⟨va, h1, h2, h3, h4⟩
                      have r5 : gs 110 = .pointer (some ⟨ab, 2, none⟩) := hR 5 (hdeps ⟨5, .data⟩ (by simp) rfl)
                      obtain ⟨c0, c1, c2, lab'⟩ := hC.cells
                      dsimp only at c0 c1 c2
                      unfold frVf
                      go_wp2_with fail
                      exact HQ _ (.string s) _ (by simp only [frVf, upd1, r5, Nat.reduceEqDiff, reduceIte]) trivial rfl hC
                    · have HQ := fun (a' : Act) (va : Value) (w' : World) (h1 : a' = frVf es.length cp sec vb wb rb ab k gn s ga oa u4 u12 u13 u14 u15 u16 u17 u18 u19 u20 u21 u60 u61 u73 u74 u75 u76 u77 u78 u79 u80 u81 u82 u83 u84 u85 u86 u87 u88 u89 u90 u91 u92 u93 u94 u95 u96 u97 u98 u99 u100 u101 u102 u115 u116 u117 u118 u119 u120 u121 u122 u123 u124 u125 u126 u127 u128 u129 u130 u131 u132 u133 u134 u135 u136 u137 u138 u139 u140 u141 u142 u143 u144 u145 u146 u147 u148 u149 u150 u151 u152 u153 u154 u155 u156 u157 u158 (upd1 gs 112 va)) h2 (h3 : laysVf vb wb ab s c 7 va w') h4 => hQ.out a' w' ⟨va, h1, h2, h3, h4⟩
                      have r4 : gs 109 = .pointer (some ⟨wb, 0, none⟩) := hR 4 (hdeps ⟨4, .data⟩ (by simp) rfl)
                      have r6 : gs 111 = .string s := hR 6 (hdeps ⟨6, .data⟩ (by simp) rfl)
                      have hC3 := hC
                      simp only [hLi, Bool.false_eq_true, if_false] at hC3
                      clear hC
                      unfold frVf
                      go_wp2_with fail
                      refine (hC3.rforget s SZ.out.2.2.2 (by have := SZ.out.1; unfold maxLen; omega)).mono ?_
                      rintro _ w5 ⟨rfl, hX⟩
                      rw [FB.out]
                      go_wp2_with fail
                      exact HQ _ (.int .i64 c) _ (by simp only [frVf, upd1, r4, r6, Nat.reduceEqDiff, reduceIte]) trivial rfl hX
                    · have HQ := fun (a' : Act) (va : Value) (w' : World) (h1 : a' = frVf es.length cp sec vb wb rb ab k gn s ga oa u4 u12 u13 u14 u15 u16 u17 u18 u19 u20 u21 u60 u61 u73 u74 u75 u76 u77 u78 u79 u80 u81 u82 u83 u84 u85 u86 u87 u88 u89 u90 u91 u92 u93 u94 u95 u96 u97 u98 u99 u100 u101 u102 u115 u116 u117 u118 u119 u120 u121 u122 u123 u124 u125 u126 u127 u128 u129 u130 u131 u132 u133 u134 u135 u136 u137 u138 u139 u140 u141 u142 u143 u144 u145 u146 u147 u148 u149 u150 u151 u152 u153 u154 u155 u156 u157 u158 (upd1 gs 113 va)) h2 (h3 : laysVf vb wb ab s c 8 va w') h4 => hQ.out a' w' ⟨va, h1, h2, h3, h4⟩
                      have r3 : gs 108 = errOf c := hR 3 (hdeps ⟨3, .data⟩ (by simp) rfl)
                      have r7 : gs 112 = .int .i64 c := hR 7 (hdeps ⟨7, .data⟩ (by simp) rfl)
                      unfold frVf
                      go_wp2_with fail
                      refine (bare_any (errOf c) (errOf_is c) c w1 (ErrT_low EE.out hC.i.b)).mono ?_
                      rintro _ w5 ⟨rfl, hx⟩
                      rw [errOf_num c]
                      go_wp2_with fail
                      exact HQ _ (.bool true) _ (by simp only [frVf, upd1, r3, r7, Nat.reduceEqDiff, reduceIte]) trivial rfl (hC.ext hx)
                    · have HQ := fun (a' : Act) (va : Value) (w' : World) (h1 : a' = frVf es.length cp sec vb wb rb ab k gn s ga oa u4 u12 u13 u14 u15 u16 u17 u18 u19 u20 u21 u60 u61 u73 u74 u75 u76 u77 u78 u79 u80 u81 u82 u83 u84 u85 u86 u87 u88 u89 u90 u91 u92 u93 u94 u95 u96 u97 u98 u99 u100 u101 u102 u115 u116 u117 u118 u119 u120 u121 u122 u123 u124 u125 u126 u127 u128 u129 u130 u131 u132 u133 u134 u135 u136 u137 u138 u139 u140 u141 u142 u143 u144 u145 u146 u147 u148 u149 u150 u151 u152 u153 u154 u155 u156 u157 u158 (upd1 gs 114 va)) h2 (h3 : laysVf vb wb ab s c 9 va w') h4 => hQ.out a' w' ⟨va, h1, h2, h3, h4⟩
                      have r8 : gs 113 = .bool true := hR 8 (hdeps ⟨8, .data⟩ (by simp) rfl)
                      unfold frVf
                      go_wp2_with fail
                      exact HQ _ (.bool false) _ (by simp only [frVf, upd1, r8, Nat.reduceEqDiff, reduceIte]) trivial rfl hC
                  intro L1 g1 w9 hall hR hC
                  have r9 : g1 114 = .bool false := hR 9 (by decide)
                  have h3 := hall 3 (by decide)
                  have h7 := hall 7 (by decide)
                  simp only [h3, h7, if_true] at hC
                  have HC := Lib.hid hC
                  clear hall hR hC h3 h7 FS FB
                  unfold frVf
                  rw [r9]
                  clear r9
                  go_wp2_with fail
                  go_meet
                  case rel => exact ⟨n + 1, M, _, _, Lib.hid (by have := HN.out; omega), HC, Lib.hid ((HRL.out.forget s).mono (by omega))⟩
                · have hb1 : (wh == 1) = false := by simp [h1]
                  have H1 := Lib.hid h1
                  clear h1
                  go_wp2_with fail
                  go_meet
                  case rel => exact ⟨n, M, T, B, Lib.hid (by have := HN.out; omega), XA, Lib.hid (HRL.out.mono (by omega))⟩
            case rest =>
              obtain ⟨n2, M2, T2, B2, HN2, X2, R2⟩ := hcut
              have HN2m := Lib.hid (show n2 ≤ 1000000 by have := HN2.out; omega)
              have KS := Lib.hid (R2.out.key_says s gn)
              obtain ⟨c0, c1, c2, lab2⟩ := X2.out.cells
              dsimp only at c0 c1 c2
              go_wp2_with fail
              refine (X2.out.rkey s gn SZ.out.2.2.1 SZ.out.2.1).mono ?_
              rintro _ w7 ⟨rfl, hx⟩
              have X7 := Lib.hid (X2.out.ext hx)
              clear hx X2 c0 c1 c2 lab2
              obtain ⟨kk, c, e1, e2⟩ := KS.out
              rw [e2]
              have E1 := Lib.hid e1
              clear e1 e2 KS
              obtain ⟨c0, c1, c2, lab2⟩ := X7.out.cells
              dsimp only at c0 c1 c2
              go_wp2_with fail
              refine (X7.out.vkey s gn SZ.out.2.2.2).mono ?_
              rintro _ w8 ⟨rfl, rfl⟩
              rw [E1.out]
              have X2 := X7
              clear X7 E1 c0 c1 c2 lab2
              go_wp2_with fail
              refine wp_region_slots (frVr es.length cp sec vb wb rb ab k wh gn s c kk ga oa u4 u12 u13 u14 u15 u16 u17 u56 u57 u58 u59 u60 u61 u62 u63 u64 u65 u66 u67 u68 u69 u71 u72 u73 u74 u75 u76 u77 u78 u79 u80 u81 u82 u83 u84 u85 u86 u87 u88 u89 u90 u91 u92 u93 u94 u95 u96 u97 u98 u99 u100 u101 u102 u103 u104 u105 u106 u107 u108 u109 u110 u111 u112 u113 u114) dstVr (fun k => if k = 133 then u133 else if k = 134 then u134 else if k = 135 then u135 else if k = 136 then u136 else if k = 137 then u137 else if k = 138 then u138 else if k = 139 then u139 else if k = 140 then u140 else if k = 141 then u141 else if k = 142 then u142 else if k = 143 then u143 else if k = 144 then u144 else if k = 145 then u145 else if k = 146 then u146 else if k = 147 then u147 else if k = 148 then u148 else if k = 149 then u149 else if k = 150 then u150 else if k = 151 then u151 else if k = 152 then u152 else if k = 153 then u153 else if k = 154 then u154 else if k = 155 then u155 else if k = 156 then u156 else if k = 157 then u157 else if k = 158 then u158 else undef) (laysVr vb wb ab s c kk T2) (fun L g w => vkX wz vb mb tb wb rb hb sb sec ab ⟨wh, gn, s⟩ n2 M2 T2 M2 B2 w) (fun w w' => ∃ x, w' = ext w x) (by kernel_rfl) (by kernel_rfl) rfl ?_ (by kernel_rfl) (X2.out.ext (ext_drew (ext_refl _))) ?_ ?_
              · exact fun j v w w' h hr => by unfold laysVr at hr ⊢; split at hr <;> first | exact hr | exact txS.kept hr h
              · refine ⟨?_, ?_, ?_, ?_, ?_, ?_, ?_, ?_, ?_, ?_, ?_, ?_, ?_, ?_, ?_, ?_, ?_, ?_, ?_, ?_, ?_, ?_, ?_, ?_, ?_, ?_, trivial⟩
                all_goals (intro L gs w1 hLi hdeps hR hC; refine ends_of fun Q hQ => ?_)
                · have HQ := fun (a' : Act) (va : Value) (w' : World) (h1 : a' = frVr es.length cp sec vb wb rb ab k wh gn s c kk ga oa u4 u12 u13 u14 u15 u16 u17 u56 u57 u58 u59 u60 u61 u62 u63 u64 u65 u66 u67 u68 u69 u71 u72 u73 u74 u75 u76 u77 u78 u79 u80 u81 u82 u83 u84 u85 u86 u87 u88 u89 u90 u91 u92 u93 u94 u95 u96 u97 u98 u99 u100 u101 u102 u103 u104 u105 u106 u107 u108 u109 u110 u111 u112 u113 u114 (upd1 gs 133 va)) h2 (h3 : laysVr vb wb ab s c kk T2 0 va w') h4 => hQ.out a' w' ⟨va, h1, h2, h3, h4⟩
                  unfold frVr
                  go_wp2_with fail
                  exact HQ _ (errOf c) _ (by simp only [frVr, upd1, Nat.reduceEqDiff, reduceIte]) (ext_refl _) rfl hC
                · have HQ := fun (a' : Act) (va : Value) (w' : World) (h1 : a' = frVr es.length cp sec vb wb rb ab k wh gn s c kk ga oa u4 u12 u13 u14 u15 u16 u17 u56 u57 u58 u59 u60 u61 u62 u63 u64 u65 u66 u67 u68 u69 u71 u72 u73 u74 u75 u76 u77 u78 u79 u80 u81 u82 u83 u84 u85 u86 u87 u88 u89 u90 u91 u92 u93 u94 u95 u96 u97 u98 u99 u100 u101 u102 u103 u104 u105 u106 u107 u108 u109 u110 u111 u112 u113 u114 (upd1 gs 134 va)) h2 (h3 : laysVr vb wb ab s c kk T2 1 va w') h4 => hQ.out a' w' ⟨va, h1, h2, h3, h4⟩
                  unfold frVr
                  go_wp2_with fail
                  exact HQ _ (.int .i64 c) _ (by simp only [frVr, upd1, Nat.reduceEqDiff, reduceIte]) (ext_refl _) rfl hC
                · have HQ := fun (a' : Act) (va : Value) (w' : World) (h1 : a' = frVr es.length cp sec vb wb rb ab k wh gn s c kk ga oa u4 u12 u13 u14 u15 u16 u17 u56 u57 u58 u59 u60 u61 u62 u63 u64 u65 u66 u67 u68 u69 u71 u72 u73 u74 u75 u76 u77 u78 u79 u80 u81 u82 u83 u84 u85 u86 u87 u88 u89 u90 u91 u92 u93 u94 u95 u96 u97 u98 u99 u100 u101 u102 u103 u104 u105 u106 u107 u108 u109 u110 u111 u112 u113 u114 (upd1 gs 135 va)) h2 (h3 : laysVr vb wb ab s c kk T2 2 va w') h4 => hQ.out a' w' ⟨va, h1, h2, h3, h4⟩
                  have r0 : gs 133 = errOf c := hR 0 (hdeps ⟨0, .data⟩ (by simp) rfl)
                  have r1 : gs 134 = .int .i64 c := hR 1 (hdeps ⟨1, .data⟩ (by simp) rfl)
                  unfold frVr
                  go_wp2_with fail
                  refine (bare_any (errOf c) (errOf_is c) c w1 (ErrT_low EE.out hC.i.b)).mono ?_
                  rintro _ w5 ⟨rfl, hx⟩
                  rw [errOf_num c]
                  go_wp2_with fail
                  exact HQ _ (.bool true) _ (by simp only [frVr, upd1, r0, r1, Nat.reduceEqDiff, reduceIte]) hx rfl (hC.ext hx)
                · have HQ := fun (a' : Act) (va : Value) (w' : World) (h1 : a' = frVr es.length cp sec vb wb rb ab k wh gn s c kk ga oa u4 u12 u13 u14 u15 u16 u17 u56 u57 u58 u59 u60 u61 u62 u63 u64 u65 u66 u67 u68 u69 u71 u72 u73 u74 u75 u76 u77 u78 u79 u80 u81 u82 u83 u84 u85 u86 u87 u88 u89 u90 u91 u92 u93 u94 u95 u96 u97 u98 u99 u100 u101 u102 u103 u104 u105 u106 u107 u108 u109 u110 u111 u112 u113 u114 (upd1 gs 136 va)) h2 (h3 : laysVr vb wb ab s c kk T2 3 va w') h4 => hQ.out a' w' ⟨va, h1, h2, h3, h4⟩
                  have r2 : gs 135 = .bool true := hR 2 (hdeps ⟨2, .data⟩ (by simp) rfl)
                  unfold frVr
                  go_wp2_with fail
                  exact HQ _ (.bool false) _ (by simp only [frVr, upd1, r2, Nat.reduceEqDiff, reduceIte]) (ext_refl _) rfl hC
                · have HQ := fun (a' : Act) (va : Value) (w' : World) (h1 : a' = frVr es.length cp sec vb wb rb ab k wh gn s c kk ga oa u4 u12 u13 u14 u15 u16 u17 u56 u57 u58 u59 u60 u61 u62 u63 u64 u65 u66 u67 u68 u69 u71 u72 u73 u74 u75 u76 u77 u78 u79 u80 u81 u82 u83 u84 u85 u86 u87 u88 u89 u90 u91 u92 u93 u94 u95 u96 u97 u98 u99 u100 u101 u102 u103 u104 u105 u106 u107 u108 u109 u110 u111 u112 u113 u114 (upd1 gs 137 va)) h2 (h3 : laysVr vb wb ab s c kk T2 4 va w') h4 => hQ.out a' w' ⟨va, h1, h2, h3, h4⟩
                  have r3 : gs 136 = .bool false := hR 3 (hdeps ⟨3, .data⟩ (by simp) rfl)
                  unfold frVr
                  go_wp2_with fail
                  exact HQ _ (.bool false) _ (by simp only [frVr, upd1, r3, Nat.reduceEqDiff, reduceIte]) (ext_refl _) rfl hC
                · have HQ := fun (a' : Act) (va : Value) (w' : World) (h1 : a' = frVr es.length cp sec vb wb rb ab k wh gn s c kk ga oa u4 u12 u13 u14 u15 u16 u17 u56 u57 u58 u59 u60 u61 u62 u63 u64 u65 u66 u67 u68 u69 u71 u72 u73 u74 u75 u76 u77 u78 u79 u80 u81 u82 u83 u84 u85 u86 u87 u88 u89 u90 u91 u92 u93 u94 u95 u96 u97 u98 u99 u100 u101 u102 u103 u104 u105 u106 u107 u108 u109 u110 u111 u112 u113 u114 (upd1 gs 138 va)) h2 (h3 : laysVr vb wb ab s c kk T2 5 va w') h4 => hQ.out a' w' ⟨va, h1, h2, h3, h4⟩
                  have r4 : gs 137 = .bool false := hR 4 (hdeps ⟨4, .guard⟩ (by simp) rfl)
                  unfold frVr
                  go_wp2_with fail
                  exact HQ _ (.string kk) _ (by simp only [frVr, upd1, r4, Nat.reduceEqDiff, reduceIte]) (ext_refl _) rfl hC
                · have HQ := fun (a' : Act) (va : Value) (w' : World) (h1 : a' = frVr es.length cp sec vb wb rb ab k wh gn s c kk ga oa u4 u12 u13 u14 u15 u16 u17 u56 u57 u58 u59 u60 u61 u62 u63 u64 u65 u66 u67 u68 u69 u71 u72 u73 u74 u75 u76 u77 u78 u79 u80 u81 u82 u83 u84 u85 u86 u87 u88 u89 u90 u91 u92 u93 u94 u95 u96 u97 u98 u99 u100 u101 u102 u103 u104 u105 u106 u107 u108 u109 u110 u111 u112 u113 u114 (upd1 gs 139 va)) h2 (h3 : laysVr vb wb ab s c kk T2 6 va w') h4 => hQ.out a' w' ⟨va, h1, h2, h3, h4⟩
                  have r4 : gs 137 = .bool false := hR 4 (hdeps ⟨4, .guard⟩ (by simp) rfl)
                  unfold frVr
                  go_wp2_with fail
                  exact HQ _ (.string kk) _ (by simp only [frVr, upd1, r4, Nat.reduceEqDiff, reduceIte]) (ext_refl _) rfl hC
                · have HQ := fun (a' : Act) (va : Value) (w' : World) (h1 : a' = frVr es.length cp sec vb wb rb ab k wh gn s c kk ga oa u4 u12 u13 u14 u15 u16 u17 u56 u57 u58 u59 u60 u61 u62 u63 u64 u65 u66 u67 u68 u69 u71 u72 u73 u74 u75 u76 u77 u78 u79 u80 u81 u82 u83 u84 u85 u86 u87 u88 u89 u90 u91 u92 u93 u94 u95 u96 u97 u98 u99 u100 u101 u102 u103 u104 u105 u106 u107 u108 u109 u110 u111 u112 u113 u114 (upd1 gs 140 va)) h2 (h3 : laysVr vb wb ab s c kk T2 7 va w') h4 => hQ.out a' w' ⟨va, h1, h2, h3, h4⟩
                  have r5 : gs 138 = .string kk := hR 5 (hdeps ⟨5, .data⟩ (by simp) rfl)
                  have r6 : gs 139 = .string kk := hR 6 (hdeps ⟨6, .data⟩ (by simp) rfl)
                  have r4 : gs 137 = .bool false := hR 4 (hdeps ⟨4, .guard⟩ (by simp) rfl)
                  unfold frVr
                  go_wp2_with fail
                  exact HQ _ (.bool false) _ (by simp only [frVr, upd1, r5, r6, r4, Nat.reduceEqDiff, reduceIte]) (ext_refl _) rfl hC
                · have HQ := fun (a' : Act) (va : Value) (w' : World) (h1 : a' = frVr es.length cp sec vb wb rb ab k wh gn s c kk ga oa u4 u12 u13 u14 u15 u16 u17 u56 u57 u58 u59 u60 u61 u62 u63 u64 u65 u66 u67 u68 u69 u71 u72 u73 u74 u75 u76 u77 u78 u79 u80 u81 u82 u83 u84 u85 u86 u87 u88 u89 u90 u91 u92 u93 u94 u95 u96 u97 u98 u99 u100 u101 u102 u103 u104 u105 u106 u107 u108 u109 u110 u111 u112 u113 u114 (upd1 gs 141 va)) h2 (h3 : laysVr vb wb ab s c kk T2 8 va w') h4 => hQ.out a' w' ⟨va, h1, h2, h3, h4⟩
                  have r4 : gs 137 = .bool false := hR 4 (hdeps ⟨4, .data⟩ (by simp) rfl)
                  have r7 : gs 140 = .bool false := hR 7 (hdeps ⟨7, .data⟩ (by simp) rfl)
                  unfold frVr
                  go_wp2_with fail
                  exact HQ _ (.bool false) _ (by simp only [frVr, upd1, r4, r7, Nat.reduceEqDiff, reduceIte]) (ext_refl _) rfl hC
                · have HQ := fun (a' : Act) (va : Value) (w' : World) (h1 : a' = frVr es.length cp sec vb wb rb ab k wh gn s c kk ga oa u4 u12 u13 u14 u15 u16 u17 u56 u57 u58 u59 u60 u61 u62 u63 u64 u65 u66 u67 u68 u69 u71 u72 u73 u74 u75 u76 u77 u78 u79 u80 u81 u82 u83 u84 u85 u86 u87 u88 u89 u90 u91 u92 u93 u94 u95 u96 u97 u98 u99 u100 u101 u102 u103 u104 u105 u106 u107 u108 u109 u110 u111 u112 u113 u114 (upd1 gs 142 va)) h2 (h3 : laysVr vb wb ab s c kk T2 9 va w') h4 => hQ.out a' w' ⟨va, h1, h2, h3, h4⟩
                  have r8 : gs 141 = .bool false := hR 8 (hdeps ⟨8, .data⟩ (by simp) rfl)
                  unfold frVr
                  go_wp2_with fail
                  exact HQ _ (.bool false) _ (by simp only [frVr, upd1, r8, Nat.reduceEqDiff, reduceIte]) (ext_refl _) rfl hC
                · have HQ := fun (a' : Act) (va : Value) (w' : World) (h1 : a' = frVr es.length cp sec vb wb rb ab k wh gn s c kk ga oa u4 u12 u13 u14 u15 u16 u17 u56 u57 u58 u59 u60 u61 u62 u63 u64 u65 u66 u67 u68 u69 u71 u72 u73 u74 u75 u76 u77 u78 u79 u80 u81 u82 u83 u84 u85 u86 u87 u88 u89 u90 u91 u92 u93 u94 u95 u96 u97 u98 u99 u100 u101 u102 u103 u104 u105 u106 u107 u108 u109 u110 u111 u112 u113 u114 (upd1 gs 143 va)) h2 (h3 : laysVr vb wb ab s c kk T2 10 va w') h4 => hQ.out a' w' ⟨va, h1, h2, h3, h4⟩
                  have r9 : gs 142 = .bool false := hR 9 (hdeps ⟨9, .guard⟩ (by simp) rfl)
                  unfold frVr
                  go_wp2_with fail
                  exact HQ _ (.pointer (some ⟨vb, 0, none⟩)) _ (by simp only [frVr, upd1, r9, Nat.reduceEqDiff, reduceIte]) (ext_refl _) rfl hC
                · have HQ := fun (a' : Act) (va : Value) (w' : World) (h1 : a' = frVr es.length cp sec vb wb rb ab k wh gn s c kk ga oa u4 u12 u13 u14 u15 u16 u17 u56 u57 u58 u59 u60 u61 u62 u63 u64 u65 u66 u67 u68 u69 u71 u72 u73 u74 u75 u76 u77 u78 u79 u80 u81 u82 u83 u84 u85 u86 u87 u88 u89 u90 u91 u92 u93 u94 u95 u96 u97 u98 u99 u100 u101 u102 u103 u104 u105 u106 u107 u108 u109 u110 u111 u112 u113 u114 (upd1 gs 144 va)) h2 (h3 : laysVr vb wb ab s c kk T2 11 va w') h4 => hQ.out a' w' ⟨va, h1, h2, h3, h4⟩
                  have r10 : gs 143 = .pointer (some ⟨vb, 0, none⟩) := hR 10 (hdeps ⟨10, .data⟩ (by simp) rfl)
                  have r9 : gs 142 = .bool false := hR 9 (hdeps ⟨9, .guard⟩ (by simp) rfl)
                  unfold frVr
                  go_wp2_with fail
                  refine (hC.vsubj HN2m.out).mono ?_
                  rintro _ w5 ⟨⟨v5, rfl, h5⟩, hx⟩
                  go_wp2_with fail
                  exact HQ _ (v5) _ (by simp only [frVr, upd1, r10, r9, Nat.reduceEqDiff, reduceIte]) hx h5 (hC.ext hx)
                · have HQ := fun (a' : Act) (va : Value) (w' : World) (h1 : a' = frVr es.length cp sec vb wb rb ab k wh gn s c kk ga oa u4 u12 u13 u14 u15 u16 u17 u56 u57 u58 u59 u60 u61 u62 u63 u64 u65 u66 u67 u68 u69 u71 u72 u73 u74 u75 u76 u77 u78 u79 u80 u81 u82 u83 u84 u85 u86 u87 u88 u89 u90 u91 u92 u93 u94 u95 u96 u97 u98 u99 u100 u101 u102 u103 u104 u105 u106 u107 u108 u109 u110 u111 u112 u113 u114 (upd1 gs 145 va)) h2 (h3 : laysVr vb wb ab s c kk T2 12 va w') h4 => hQ.out a' w' ⟨va, h1, h2, h3, h4⟩
                  have r9 : gs 142 = .bool false := hR 9 (hdeps ⟨9, .guard⟩ (by simp) rfl)
                  unfold frVr
                  go_wp2_with fail
                  exact HQ _ (.pointer (some ⟨wb, 0, none⟩)) _ (by simp only [frVr, upd1, r9, Nat.reduceEqDiff, reduceIte]) (ext_refl _) rfl hC
                · have HQ := fun (a' : Act) (va : Value) (w' : World) (h1 : a' = frVr es.length cp sec vb wb rb ab k wh gn s c kk ga oa u4 u12 u13 u14 u15 u16 u17 u56 u57 u58 u59 u60 u61 u62 u63 u64 u65 u66 u67 u68 u69 u71 u72 u73 u74 u75 u76 u77 u78 u79 u80 u81 u82 u83 u84 u85 u86 u87 u88 u89 u90 u91 u92 u93 u94 u95 u96 u97 u98 u99 u100 u101 u102 u103 u104 u105 u106 u107 u108 u109 u110 u111 u112 u113 u114 (upd1 gs 146 va)) h2 (h3 : laysVr vb wb ab s c kk T2 13 va w') h4 => hQ.out a' w' ⟨va, h1, h2, h3, h4⟩
                  have r12 : gs 145 = .pointer (some ⟨wb, 0, none⟩) := hR 12 (hdeps ⟨12, .data⟩ (by simp) rfl)
                  have r9 : gs 142 = .bool false := hR 9 (hdeps ⟨9, .guard⟩ (by simp) rfl)
                  unfold frVr
                  go_wp2_with fail
                  refine (hC.rsubj R2.out HN2m.out).mono ?_
                  rintro _ w5 ⟨⟨v5, rfl, h5⟩, hx⟩
                  go_wp2_with fail
                  exact HQ _ (v5) _ (by simp only [frVr, upd1, r12, r9, Nat.reduceEqDiff, reduceIte]) hx h5 (hC.ext hx)
                · have HQ := fun (a' : Act) (va : Value) (w' : World) (h1 : a' = frVr es.length cp sec vb wb rb ab k wh gn s c kk ga oa u4 u12 u13 u14 u15 u16 u17 u56 u57 u58 u59 u60 u61 u62 u63 u64 u65 u66 u67 u68 u69 u71 u72 u73 u74 u75 u76 u77 u78 u79 u80 u81 u82 u83 u84 u85 u86 u87 u88 u89 u90 u91 u92 u93 u94 u95 u96 u97 u98 u99 u100 u101 u102 u103 u104 u105 u106 u107 u108 u109 u110 u111 u112 u113 u114 (upd1 gs 147 va)) h2 (h3 : laysVr vb wb ab s c kk T2 14 va w') h4 => hQ.out a' w' ⟨va, h1, h2, h3, h4⟩
                  have r11 := hR 11 (hdeps ⟨11, .data⟩ (by simp) rfl)
                  have r13 := hR 13 (hdeps ⟨13, .data⟩ (by simp) rfl)
                  have r9 : gs 142 = .bool false := hR 9 (hdeps ⟨9, .guard⟩ (by simp) rfl)
                  change txS w1 (gs 144) (subjL T2) at r11
                  change txS w1 (gs 146) (subjL T2) at r13
                  unfold frVr
                  go_wp2_with fail
                  refine (sameT_any (gs 144) (gs 146) (subjL T2) w1 (by have := subjL_len hC; have := HN2m.out; omega) r11 r13).mono ?_
                  rintro _ w5 ⟨rfl, hx⟩
                  go_wp2_with fail
                  exact HQ _ (.bool true) _ (by simp only [frVr, upd1, r9, Nat.reduceEqDiff, reduceIte]) hx rfl (hC.ext hx)
                · have HQ := fun (a' : Act) (va : Value) (w' : World) (h1 : a' = frVr es.length cp sec vb wb rb ab k wh gn s c kk ga oa u4 u12 u13 u14 u15 u16 u17 u56 u57 u58 u59 u60 u61 u62 u63 u64 u65 u66 u67 u68 u69 u71 u72 u73 u74 u75 u76 u77 u78 u79 u80 u81 u82 u83 u84 u85 u86 u87 u88 u89 u90 u91 u92 u93 u94 u95 u96 u97 u98 u99 u100 u101 u102 u103 u104 u105 u106 u107 u108 u109 u110 u111 u112 u113 u114 (upd1 gs 148 va)) h2 (h3 : laysVr vb wb ab s c kk T2 15 va w') h4 => hQ.out a' w' ⟨va, h1, h2, h3, h4⟩
                  have r14 : gs 147 = .bool true := hR 14 (hdeps ⟨14, .data⟩ (by simp) rfl)
                  have r9 : gs 142 = .bool false := hR 9 (hdeps ⟨9, .guard⟩ (by simp) rfl)
                  unfold frVr
                  go_wp2_with fail
                  exact HQ _ (.bool false) _ (by simp only [frVr, upd1, r14, r9, Nat.reduceEqDiff, reduceIte]) (ext_refl _) rfl hC
                · have HQ := fun (a' : Act) (va : Value) (w' : World) (h1 : a' = frVr es.length cp sec vb wb rb ab k wh gn s c kk ga oa u4 u12 u13 u14 u15 u16 u17 u56 u57 u58 u59 u60 u61 u62 u63 u64 u65 u66 u67 u68 u69 u71 u72 u73 u74 u75 u76 u77 u78 u79 u80 u81 u82 u83 u84 u85 u86 u87 u88 u89 u90 u91 u92 u93 u94 u95 u96 u97 u98 u99 u100 u101 u102 u103 u104 u105 u106 u107 u108 u109 u110 u111 u112 u113 u114 (upd1 gs 149 va)) h2 (h3 : laysVr vb wb ab s c kk T2 16 va w') h4 => hQ.out a' w' ⟨va, h1, h2, h3, h4⟩
                  have r9 : gs 142 = .bool false := hR 9 (hdeps ⟨9, .data⟩ (by simp) rfl)
                  have r15 : gs 148 = .bool false := hR 15 (hdeps ⟨15, .data⟩ (by simp) rfl)
                  unfold frVr
                  go_wp2_with fail
                  exact HQ _ (.bool false) _ (by simp only [frVr, upd1, r9, r15, Nat.reduceEqDiff, reduceIte]) (ext_refl _) rfl hC
                · have HQ := fun (a' : Act) (va : Value) (w' : World) (h1 : a' = frVr es.length cp sec vb wb rb ab k wh gn s c kk ga oa u4 u12 u13 u14 u15 u16 u17 u56 u57 u58 u59 u60 u61 u62 u63 u64 u65 u66 u67 u68 u69 u71 u72 u73 u74 u75 u76 u77 u78 u79 u80 u81 u82 u83 u84 u85 u86 u87 u88 u89 u90 u91 u92 u93 u94 u95 u96 u97 u98 u99 u100 u101 u102 u103 u104 u105 u106 u107 u108 u109 u110 u111 u112 u113 u114 (upd1 gs 150 va)) h2 (h3 : laysVr vb wb ab s c kk T2 17 va w') h4 => hQ.out a' w' ⟨va, h1, h2, h3, h4⟩
                  have r16 : gs 149 = .bool false := hR 16 (hdeps ⟨16, .data⟩ (by simp) rfl)
                  unfold frVr
                  go_wp2_with fail
                  exact HQ _ (.bool false) _ (by simp only [frVr, upd1, r16, Nat.reduceEqDiff, reduceIte]) (ext_refl _) rfl hC
                · have HQ := fun (a' : Act) (va : Value) (w' : World) (h1 : a' = frVr es.length cp sec vb wb rb ab k wh gn s c kk ga oa u4 u12 u13 u14 u15 u16 u17 u56 u57 u58 u59 u60 u61 u62 u63 u64 u65 u66 u67 u68 u69 u71 u72 u73 u74 u75 u76 u77 u78 u79 u80 u81 u82 u83 u84 u85 u86 u87 u88 u89 u90 u91 u92 u93 u94 u95 u96 u97 u98 u99 u100 u101 u102 u103 u104 u105 u106 u107 u108 u109 u110 u111 u112 u113 u114 (upd1 gs 151 va)) h2 (h3 : laysVr vb wb ab s c kk T2 18 va w') h4 => hQ.out a' w' ⟨va, h1, h2, h3, h4⟩
                  have r17 : gs 150 = .bool false := hR 17 (hdeps ⟨17, .guard⟩ (by simp) rfl)
                  unfold frVr
                  go_wp2_with fail
                  exact HQ _ (.pointer (some ⟨ab, 2, none⟩)) _ (by simp only [frVr, upd1, r17, Nat.reduceEqDiff, reduceIte]) (ext_refl _) rfl hC
                · have HQ := fun (a' : Act) (va : Value) (w' : World) (h1 : a' = frVr es.length cp sec vb wb rb ab k wh gn s c kk ga oa u4 u12 u13 u14 u15 u16 u17 u56 u57 u58 u59 u60 u61 u62 u63 u64 u65 u66 u67 u68 u69 u71 u72 u73 u74 u75 u76 u77 u78 u79 u80 u81 u82 u83 u84 u85 u86 u87 u88 u89 u90 u91 u92 u93 u94 u95 u96 u97 u98 u99 u100 u101 u102 u103 u104 u105 u106 u107 u108 u109 u110 u111 u112 u113 u114 (upd1 gs 152 va)) h2 (h3 : laysVr vb wb ab s c kk T2 19 va w') h4 => hQ.out a' w' ⟨va, h1, h2, h3, h4⟩
                  have r18 : gs 151 = .pointer (some ⟨ab, 2, none⟩) := hR 18 (hdeps ⟨18, .data⟩ (by simp) rfl)
                  have r17 : gs 150 = .bool false := hR 17 (hdeps ⟨17, .guard⟩ (by simp) rfl)
                  obtain ⟨c0, c1, c2, lab'⟩ := hC.cells
                  dsimp only at c0 c1 c2
                  unfold frVr
                  go_wp2_with fail
                  exact HQ _ (.string s) _ (by simp only [frVr, upd1, r18, r17, Nat.reduceEqDiff, reduceIte]) (ext_refl _) rfl hC
                · have HQ := fun (a' : Act) (va : Value) (w' : World) (h1 : a' = frVr es.length cp sec vb wb rb ab k wh gn s c kk ga oa u4 u12 u13 u14 u15 u16 u17 u56 u57 u58 u59 u60 u61 u62 u63 u64 u65 u66 u67 u68 u69 u71 u72 u73 u74 u75 u76 u77 u78 u79 u80 u81 u82 u83 u84 u85 u86 u87 u88 u89 u90 u91 u92 u93 u94 u95 u96 u97 u98 u99 u100 u101 u102 u103 u104 u105 u106 u107 u108 u109 u110 u111 u112 u113 u114 (upd1 gs 153 va)) h2 (h3 : laysVr vb wb ab s c kk T2 20 va w') h4 => hQ.out a' w' ⟨va, h1, h2, h3, h4⟩
                  have r19 : gs 152 = .string s := hR 19 (hdeps ⟨19, .data⟩ (by simp) rfl)
                  have r17 : gs 150 = .bool false := hR 17 (hdeps ⟨17, .guard⟩ (by simp) rfl)
                  unfold frVr
                  go_wp2_with fail
                  refine (name_any s w1 (by have := SZ.out.2.2.1; omega)).mono ?_
                  rintro _ w5 ⟨rfl, hx⟩
                  go_wp2_with fail
                  exact HQ _ (.bool (nameB s.data.toList)) _ (by simp only [frVr, upd1, r19, r17, Nat.reduceEqDiff, reduceIte]) hx rfl (hC.ext hx)
                · have HQ := fun (a' : Act) (va : Value) (w' : World) (h1 : a' = frVr es.length cp sec vb wb rb ab k wh gn s c kk ga oa u4 u12 u13 u14 u15 u16 u17 u56 u57 u58 u59 u60 u61 u62 u63 u64 u65 u66 u67 u68 u69 u71 u72 u73 u74 u75 u76 u77 u78 u79 u80 u81 u82 u83 u84 u85 u86 u87 u88 u89 u90 u91 u92 u93 u94 u95 u96 u97 u98 u99 u100 u101 u102 u103 u104 u105 u106 u107 u108 u109 u110 u111 u112 u113 u114 (upd1 gs 154 va)) h2 (h3 : laysVr vb wb ab s c kk T2 21 va w') h4 => hQ.out a' w' ⟨va, h1, h2, h3, h4⟩
                  have r17 : gs 150 = .bool false := hR 17 (hdeps ⟨17, .guard⟩ (by simp) rfl)
                  unfold frVr
                  go_wp2_with fail
                  exact HQ _ (.pointer (some ⟨ab, 2, none⟩)) _ (by simp only [frVr, upd1, r17, Nat.reduceEqDiff, reduceIte]) (ext_refl _) rfl hC
                · have HQ := fun (a' : Act) (va : Value) (w' : World) (h1 : a' = frVr es.length cp sec vb wb rb ab k wh gn s c kk ga oa u4 u12 u13 u14 u15 u16 u17 u56 u57 u58 u59 u60 u61 u62 u63 u64 u65 u66 u67 u68 u69 u71 u72 u73 u74 u75 u76 u77 u78 u79 u80 u81 u82 u83 u84 u85 u86 u87 u88 u89 u90 u91 u92 u93 u94 u95 u96 u97 u98 u99 u100 u101 u102 u103 u104 u105 u106 u107 u108 u109 u110 u111 u112 u113 u114 (upd1 gs 155 va)) h2 (h3 : laysVr vb wb ab s c kk T2 22 va w') h4 => hQ.out a' w' ⟨va, h1, h2, h3, h4⟩
                  have r21 : gs 154 = .pointer (some ⟨ab, 2, none⟩) := hR 21 (hdeps ⟨21, .data⟩ (by simp) rfl)
                  have r17 : gs 150 = .bool false := hR 17 (hdeps ⟨17, .guard⟩ (by simp) rfl)
                  obtain ⟨c0, c1, c2, lab'⟩ := hC.cells
                  dsimp only at c0 c1 c2
                  unfold frVr
                  go_wp2_with fail
                  exact HQ _ (.string s) _ (by simp only [frVr, upd1, r21, r17, Nat.reduceEqDiff, reduceIte]) (ext_refl _) rfl hC
                · have HQ := fun (a' : Act) (va : Value) (w' : World) (h1 : a' = frVr es.length cp sec vb wb rb ab k wh gn s c kk ga oa u4 u12 u13 u14 u15 u16 u17 u56 u57 u58 u59 u60 u61 u62 u63 u64 u65 u66 u67 u68 u69 u71 u72 u73 u74 u75 u76 u77 u78 u79 u80 u81 u82 u83 u84 u85 u86 u87 u88 u89 u90 u91 u92 u93 u94 u95 u96 u97 u98 u99 u100 u101 u102 u103 u104 u105 u106 u107 u108 u109 u110 u111 u112 u113 u114 (upd1 gs 156 va)) h2 (h3 : laysVr vb wb ab s c kk T2 23 va w') h4 => hQ.out a' w' ⟨va, h1, h2, h3, h4⟩
                  have r22 : gs 155 = .string s := hR 22 (hdeps ⟨22, .data⟩ (by simp) rfl)
                  have r17 : gs 150 = .bool false := hR 17 (hdeps ⟨17, .guard⟩ (by simp) rfl)
                  unfold frVr
                  go_wp2_with fail
                  refine (rname_any s w1 SZ.out.2.2.1).mono ?_
                  rintro _ w5 ⟨rfl, rfl⟩
                  go_wp2_with fail
                  exact HQ _ (.bool (nameB s.data.toList)) _ (by simp only [frVr, upd1, r22, r17, Nat.reduceEqDiff, reduceIte]) (ext_refl _) rfl hC
                · have HQ := fun (a' : Act) (va : Value) (w' : World) (h1 : a' = frVr es.length cp sec vb wb rb ab k wh gn s c kk ga oa u4 u12 u13 u14 u15 u16 u17 u56 u57 u58 u59 u60 u61 u62 u63 u64 u65 u66 u67 u68 u69 u71 u72 u73 u74 u75 u76 u77 u78 u79 u80 u81 u82 u83 u84 u85 u86 u87 u88 u89 u90 u91 u92 u93 u94 u95 u96 u97 u98 u99 u100 u101 u102 u103 u104 u105 u106 u107 u108 u109 u110 u111 u112 u113 u114 (upd1 gs 157 va)) h2 (h3 : laysVr vb wb ab s c kk T2 24 va w') h4 => hQ.out a' w' ⟨va, h1, h2, h3, h4⟩
                  have r20 : gs 153 = .bool (nameB s.data.toList) := hR 20 (hdeps ⟨20, .data⟩ (by simp) rfl)
                  have r23 : gs 156 = .bool (nameB s.data.toList) := hR 23 (hdeps ⟨23, .data⟩ (by simp) rfl)
                  have r17 : gs 150 = .bool false := hR 17 (hdeps ⟨17, .guard⟩ (by simp) rfl)
                  unfold frVr
                  go_wp2_with fail
                  exact HQ _ (.bool false) _ (by simp only [frVr, upd1, r20, r23, r17, Nat.reduceEqDiff, reduceIte]) (ext_refl _) rfl hC
                · have HQ := fun (a' : Act) (va : Value) (w' : World) (h1 : a' = frVr es.length cp sec vb wb rb ab k wh gn s c kk ga oa u4 u12 u13 u14 u15 u16 u17 u56 u57 u58 u59 u60 u61 u62 u63 u64 u65 u66 u67 u68 u69 u71 u72 u73 u74 u75 u76 u77 u78 u79 u80 u81 u82 u83 u84 u85 u86 u87 u88 u89 u90 u91 u92 u93 u94 u95 u96 u97 u98 u99 u100 u101 u102 u103 u104 u105 u106 u107 u108 u109 u110 u111 u112 u113 u114 (upd1 gs 158 va)) h2 (h3 : laysVr vb wb ab s c kk T2 25 va w') h4 => hQ.out a' w' ⟨va, h1, h2, h3, h4⟩
                  have r17 : gs 150 = .bool false := hR 17 (hdeps ⟨17, .data⟩ (by simp) rfl)
                  have r24 : gs 157 = .bool false := hR 24 (hdeps ⟨24, .data⟩ (by simp) rfl)
                  unfold frVr
                  go_wp2_with fail
                  exact HQ _ (.bool false) _ (by simp only [frVr, upd1, r17, r24, Nat.reduceEqDiff, reduceIte]) (ext_refl _) rfl hC
              intro L1 g1 w9 hall hR hC
              have r25 : g1 158 = .bool false := hR 25 (by decide)
              have HC := Lib.hid hC
              clear hall hR hC
              unfold frVr
              rw [r25]
              clear r25
              go_wp2_with fail
              go_roundw
              case rel => exact ⟨k + 1, n2, M2, T2, B2, by omega, by go_num, Lib.hid (by have := HN2.out; omega), Lib.hid HC.out.i, R2⟩
              case measure => simp [intOf]; omega
        · obtain rfl : k = es.length := by omega
          have HX := Lib.hid (ext_of HI.out.b)
          clear HI HRL HN
          go_wp2_with fail
          go_ret
          exact ⟨rfl, HX.out⟩
    · have hb1 := Lib.hid h16
      clear h16
      go_enter Tryz.func3, Tryz.ntmps3
      go_wp2_with fail
      refine (LS _).mono ?_
      rintro _ w1 ⟨rfl, rfl⟩
      go_wp2_with fail
      refine (new_any _).mono ?_
      rintro _ w2 ⟨rb, rfl, hr, hb, hx⟩
      have X2 := Lib.hid hx
      clear hr hb hx
      go_wp2_with fail
      refine (rvnew_bad rb sec w2 hb1.out).mono ?_
      rintro _ w3 ⟨rfl, rfl⟩
      go_wp2_with fail
      refine (vnew_bad sec w2 hb1.out).mono ?_
      rintro _ w4 ⟨rfl, rfl⟩
      go_wp2_with fail
      refine (bare_any (errV 1) (errOf_is 1) 1 w2 (ErrT_ext EE.out X2.out)).mono ?_
      rintro _ w5 ⟨rfl, hx⟩
      have X5 := Lib.hid (ext_trans X2.out hx)
      clear hx
      rw [show (errNum (errV 1) == 1) = true from errOf_num 1]
      go_wp2_with fail
      refine (bare_any (errV 1) (errOf_is 1) 1 w5 (ErrT_ext EE.out X5.out)).mono ?_
      rintro _ w6 ⟨rfl, hx⟩
      have X6 := Lib.hid (ext_trans X5.out hx)
      clear hx
      rw [show (errNum (errV 1) == 1) = true from errOf_num 1]
      go_wp2_with fail
      go_ret
      exact ⟨rfl, X6.out⟩
end Go.Proofs.YtnmpchojhbmbmaaGreatDoor
