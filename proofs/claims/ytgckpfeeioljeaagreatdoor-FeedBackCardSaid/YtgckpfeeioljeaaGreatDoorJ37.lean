/- oubliettekeep.FeedBack (the walk). -/
import Derived.Test.YtgckpfeeioljeaaGreatDoorProg
import Derived.Test.YtgckpfeeioljeaaGreatDoorJ31
import Derived.Test.YtgckpfeeioljeaaGreatDoorJ35
import Derived.Test.YtgckpfeeioljeaaGreatDoorG31
import Derived.Test.YtgckpfeeioljeaaGreatDoorG43
namespace Go.Proofs.YtgckpfeeioljeaaGreatDoor
open Go.RowKit Go.Shelf

def rdB (v : Value) (w : World) : Nat := match v with
  | .pointer (some a) => match w.cell? a with
    | some (.int _ n) => n.toNat
    | _ => 0
  | _ => 0
theorem cellB {w : World} {b : Nat} {v : Value} {t : TypeId} {f : Nat × Nat} (h : w.heap[b]? = some (.cells #[v] t f)) : w.cell? ⟨b, 0, none⟩ = some v := by rw [cell_in, h]; rfl
theorem rdB_at {w : World} {b : Nat} {n : Nat} {t : TypeId} {f : Nat × Nat} (h : w.heap[b]? = some (.cells #[.int .i64 n] t f)) : rdB (.pointer (some ⟨b, 0, none⟩)) w = n := by
  unfold rdB; dsimp only; rw [cellB h]; simp
theorem ownsEl_cap2 {w : World} {base n c : Nat} {q : Option Addr} {l : List Ev} (h : ownsEl w base (.slice q n c) l) : n ≤ c ∧ n = l.length := by
  obtain ⟨_, ⟨h1, h2⟩ | ⟨g, cap', cur, h1, _, _, h2, _⟩⟩ := h
  · injection h1 with _ h1 h3; subst h1 h3; exact ⟨Nat.le_refl _, h2.symm⟩
  · injection h1 with _ h1 h3; subst h1 h3; exact ⟨h2, rfl⟩
def frFb (q1 : Option Addr) (ll : Nat) (cp1 : Nat) (sb : Nat) (ob : Nat) (ib : Nat) (vr : Value) (gon : Bool) (gq : Nat) (o : Nat) (nL : Nat) (c5 : Nat) (go : Nat) (oo : Nat) (nO : Nat) (co : Nat) (qa : Option Addr) (k : Nat) (u2 : Value) (u46 : Value) (u47 : Value) (u64 : Value) (u65 : Value) (u66 : Value) (u67 : Value) (u68 : Value) (u69 : Value) (u70 : Value) (u71 : Value) (u72 : Value) (u73 : Value) (u74 : Value) (u75 : Value) (u76 : Value) (u77 : Value) (u78 : Value) (u79 : Value) (u80 : Value) (u81 : Value) (u82 : Value) (u83 : Value) (u84 : Value) (u85 : Value) (u86 : Value) (u87 : Value) (u88 : Value) (u89 : Value) (u90 : Value) (u91 : Value) (u92 : Value) (u93 : Value) (u94 : Value) (u95 : Value) (u96 : Value) (u97 : Value) (u98 : Value) (u99 : Value) (u100 : Value) (u101 : Value) (u102 : Value) (u103 : Value) (u104 : Value) (u105 : Value) (u106 : Value) (u107 : Value) (u108 : Value) (u109 : Value) (u110 : Value) (u111 : Value) (u112 : Value) (u113 : Value) (u114 : Value) (u115 : Value) (u116 : Value) (u117 : Value) (u118 : Value) (u119 : Value) (u120 : Value) (u121 : Value) (u122 : Value) (u123 : Value) (u124 : Value) (u125 : Value) (u126 : Value) (u127 : Value) (u128 : Value) (u129 : Value) (g : Nat → Value) : Act := { tmps := #[.slice q1 ll cp1, undef, u2, .pointer (some ⟨sb, 0, none⟩), .pointer (some ⟨ob, 0, none⟩), vr, .slice (some ⟨gq, o, none⟩) nL c5, .int .i64 0, .bool true, .pointer (some ⟨ib, 0, none⟩), .bool gon, g 11, g 12, .slice q1 ll cp1, .bool true, .bool false, .bool true, .bool false, .tuple #[.pointer (some ⟨sb, 0, none⟩), .slice (some ⟨go, oo, none⟩) nO co, vr], .slice q1 ll cp1, .tuple #[.pointer (some ⟨sb, 0, none⟩), .slice (some ⟨go, oo, none⟩) nO co, vr], .pointer (some ⟨sb, 0, none⟩), .slice (some ⟨go, oo, none⟩) nO co, vr, .pointer (some ⟨sb, 0, none⟩), .bool false, .pointer (some ⟨sb, 0, none⟩), .slice (some ⟨gq, o, none⟩) nL c5, .tuple #[.int .i64 0, .bool true], .slice (some ⟨gq, o, none⟩) nL c5, .tuple #[.int .i64 0, .bool true], .int .i64 0, .bool true, .bool true, .bool false, .bool false, .slice (some ⟨gq, o, none⟩) nL c5, .int .i64 nL, .slice (some ⟨go, oo, none⟩) nO co, .int .i64 nO, .bool false, .bool false, .int .i64 k, .slice (some ⟨gq, o, none⟩) nL c5, .int .i64 nL, .bool true, u46, u47, .slice (some ⟨go, oo, none⟩) nO co, .int .i64 k, .int .i64 (k + 1), .slice qa (nO - (k + 1)) (co - (k + 1)), .func (Fn.func 29) #[] #[.pointer (some ⟨ob, 0, none⟩), .pointer (some ⟨ib, 0, none⟩)], .bool gon, g 54, g 55, g 56, g 57, g 58, g 59, g 60, g 61, g 62, g 63, u64, u65, u66, u67, u68, u69, u70, u71, u72, u73, u74, u75, u76, u77, u78, u79, u80, u81, u82, u83, u84, u85, u86, u87, u88, u89, u90, u91, u92, u93, u94, u95, u96, u97, u98, u99, u100, u101, u102, u103, u104, u105, u106, u107, u108, u109, u110, u111, u112, u113, u114, u115, u116, u117, u118, u119, u120, u121, u122, u123, u124, u125, u126, u127, u128, u129], defers := [] }
def dstFb (i : Nat) : Nat := ([55, 56, 57, 58, 59, 60, 61, 54, 62, 63, 11, 1011, 12] : List Nat).getD i (2000 + i)
def laysFb (sb : Nat) (vb : Nat) (gq : Nat) (o : Nat) (nL : Nat) (c5 : Nat) (k : Nat) (u0 : ByteArray) (g0 : Int) (p0 : ByteArray) (b0 : ByteArray) (ke : Int) (se : ByteArray) (te : ByteArray) (re : ByteArray) (ve : ByteArray) (xv : Value) (j : Nat) (v : Value) (_ : World) : Prop :=
  match j with
  | 0 => v = .pointer (some ⟨sb, 0, none⟩)
  | 1 => v = .pointer (some ⟨vb, 0, none⟩)
  | 2 => v = .slice (some ⟨gq, o, none⟩) nL c5
  | 3 => v = .int .i64 k
  | 4 => v = .pointer (some ⟨gq, o + k * 5, none⟩)
  | 5 => v = .agg #[.int .i64 (k + 1), .string u0, .int .i64 g0, .string p0, .string b0]
  | 6 => v = .tuple #[.agg #[.int .i64 ke, .string se, .string te, .string re, .string ve], xv]
  | 7 => v = .tuple #[.agg #[.int .i64 ke, .string se, .string te, .string re, .string ve], xv]
  | 8 => v = .agg #[.int .i64 ke, .string se, .string te, .string re, .string ve]
  | 9 => v = xv
  | 10 => ∃ p, v = .pointer (some ⟨p, 0, none⟩)
  | 12 => v = xv
  | _ => True
set_option maxRecDepth 100000 in
set_option maxHeartbeats 8000000 in
theorem feedBack_any (q1 : Option Addr) (cp1 : Nat) (l : List Ev) (w : World) (hl : l.length ≤ 9223372036854775807) (h1 : evsAt w q1 l) (hG : Glob w none0) :
    Calls Tryz.prog 6 #[.slice q1 l.length cp1] w (Res true w) := by
  have F1 := few_any q1 cp1 l w hl h1
  have S1 := Lib.hid (fun h : fewB l = true => few_sizes h)
  have E1 := Lib.hid h1
  have GG := Lib.hid hG
  clear h1 hG
  go_enter Tryz.func6, Tryz.ntmps6
  go_wp2_with fail
  refine F1.mono ?_
  rintro _ w1 ⟨rfl, hx⟩
  have X1 := Lib.hid hx
  clear hx F1
  generalize fewB l = few1 at S1
  cases few1 with
  | false =>
    go_wp2_with fail
    go_ret
    exact ⟨rfl, X1.out⟩
  | true =>
    obtain ⟨hl30, hls⟩ := S1.out (by trivial)
    have HLS := Lib.hid hls
    clear S1 hls
    go_wp2_with fail
    refine (fed_any w1 (GG.out.ext X1.out)).mono ?_
    rintro _ w2 ⟨rfl, hx⟩
    have X2 := Lib.hid (ext_trans X1.out hx)
    clear hx X1
    have B2 := Lib.hid (ext_iff.1 X2.out)
    have DN := done_any q1 cp1 l w2 (by omega) HLS.out (E1.out.at B2.out (Nat.le_refl _)) (GG.out.ext X2.out)
    go_wp2_with fail
    refine DN.mono ?_
    rintro _ w3 ⟨sb, vb, V, F, A, vo, vr, vs, rfl, hd3⟩
    have D3 := Lib.hid hd3
    have HRU := Lib.hid (runs secS l)
    have OKL := Lib.hid (show (runM secS l).ok.length ≤ 30 from by have := ok_len secS l; omega)
    clear hd3 DN B2
    generalize runM secS l = R at D3 HRU OKL
    have HLE := Lib.hid HRU.out.inv.len
    obtain ⟨qo, co, rfl⟩ := ownsEl_shape D3.out.oks
    have CPO := (ownsEl_cap2 D3.out.oks).1
    have OB4 := Lib.hid (heap_alloc_at w3 (.cells #[.slice qo R.ok.length co] 22))
    have D4 := Lib.hid (D3.out.ext (ext_alloc (.cells #[.slice qo R.ok.length co] 22) (ext_refl w3)))
    clear D3
    go_wp2_with fail
    generalize w3.alloc (.cells #[.slice qo R.ok.length co] 22) = w4 at OB4 D4 ⊢
    generalize w3.heap.size = ob at OB4 ⊢
    refine (sfeed_any w4 V F sb vb _ secS _ D4.out.src).mono ?_
    rintro _ w5 ⟨v5, rfl, ho5, hb5⟩
    obtain ⟨q5, c5, rfl⟩ := ownsRl_shape ho5
    have RA := Lib.hid (recsAt_owned ho5)
    have D5 := Lib.hid (D4.out.ext (ext_of hb5))
    have OB5 := Lib.hid ((hb5.block _ (lt_of_heap OB4.out)).trans OB4.out)
    clear ho5 hb5 D4 OB4
    have VI := Lib.hid D5.out.src.vault.1
    have GV := Lib.hid ((GG.out.ext X2.out).step (D5.out.st.more (F' := V) (fun i hi => .inl (D5.out.sub i (D5.out.src.vault.2 i hi)))))
    have EO := Lib.hid (evsAt_owned D5.out.oks)
    have X5 := Lib.hid (ext_trans X2.out D5.out.st.ext)
    have WH := whole_any HRU.out (by have := OKL.out; omega) q5 c5 w5 RA.out GV.out.rounds
    unfold noneS at WH
    go_wp2_with fail
    refine WH.mono ?_
    rintro _ w6 ⟨rfl, hx6⟩
    have X6 := Lib.hid hx6
    have OB6 := ((ext_iff.1 hx6).block _ (lt_of_heap OB5.out)).trans OB5.out
    have ob6 := cellB OB6
    have hob6 := lt_of_heap OB6
    have hle : ((R.S.L.length : Int) != (R.ok.length : Int)) = false := by have := HLE.out; simp; omega
    have IB := Lib.hid (heap_alloc_at w6 (.cells #[.int .i64 0] 3))
    have X7 := Lib.hid (ext_alloc (.cells #[.int .i64 0] 3) hx6)
    clear WH hx6 OB6
    have hL30 : R.S.L.length ≤ 30 := by rw [HLE.out]; exact OKL.out
    go_wp2_with fail
    generalize w6.alloc (.cells #[.int .i64 0] 3) = w7 at IB X7 ⊢
    generalize w6.heap.size = ib at IB ⊢
    clear ob6 hob6 X6
    go_loopw [9] (fun pv wx => ∃ (k ib : Nat), k ≤ R.S.L.length ∧ pv = .pointer (some ⟨ib, 0, none⟩) ∧ Hid (wx.heap[ib]? = some (.cells #[.int .i64 k] 3 (0, 0))) ∧ Hid (∃ z, wx = ext w5 z)) (fun pv wx => R.S.L.length - rdB pv wx)
    case atStart => exact ⟨0, ib, Nat.zero_le _, rfl, IB, X7⟩
    case round =>
      clear IB X7
      obtain ⟨k, ib, hk, rfl, IB, XX⟩ := hrel
      have b1 := ext_iff.1 XX.out
      have OBX := Lib.hid ((b1.block _ (lt_of_heap OB5.out)).trans OB5.out)
      have obc := cellB OBX.out
      have hob := lt_of_heap OBX.out
      have ibc := cellB IB.out
      have hib := lt_of_heap IB.out
      by_cases hlt : k < R.S.L.length
      · have hlt' : (k : Int) < R.S.L.length := by omega
        have hke : k < R.ok.length := by rw [← HLE.out]; exact hlt
        have hx := List.getElem?_eq_getElem hlt
        have he := List.getElem?_eq_getElem hke
        have TO := Lib.hid (HRU.out.inv.told k _ _ hx he)
        have EOX := Lib.hid (EO.out.at b1 (Nat.le_refl _))
        have RAX := Lib.hid (recsAt_of RA.out (fun k hk => b1.block k hk) b1.size)
        obtain ⟨go, oo, rfl, hgo, o0, o1, o2, o3, o4⟩ := EOX.out.row he
        obtain ⟨g, o, rfl, _⟩ := recsAt_row RAX.out hx
        generalize R.S.L[k] = x at hx TO
        generalize R.ok[k] = e at he TO o0 o1 o2 o3 o4
        have CAP := Lib.hid (show CapE wr ob ib go oo R.ok.length co k e from ⟨hob, hib, hgo, obc, ibc, hke, o1⟩)
        have FB := fbc_any wr ob ib go oo co k R.ok e CAP.out EOX.out CPO (by have := OKL.out; omega)
        have hke' : (k : Int) + 1 ≤ R.ok.length := by omega
        have hcp' : (R.ok.length : Int) ≤ co := by omega
        have hok30 : R.ok.length ≤ 30 := OKL.out
        obtain ⟨q0, u0, g0, p0, b0⟩ := x
        obtain ⟨k0, s0, t0, r0, v0⟩ := e
        have hu : u0 = s0 := TO.out.1.subj
        subst hu
        have hq : q0 = (k : Int) + 1 := TO.out.2.1
        subst hq
        have hgen := TO.out.1.gen_iff
        have T5 := TO.out.2.2.2.2
        dsimp only at hgen T5 FB o0 o1 o2 o3 o4
        generalize goneIn (R.ok.drop (k + 1)) u0 = gon at T5 FB
        clear b1
        go_wp2_with (go_at_call 28; generalize (if co = k + 1 then (some ⟨go, oo, none⟩ : Option Addr) else some ⟨go, oo + (k + 1) * 5, none⟩) = qa at FB ⊢; refine FB.mono ?_; rintro _ wz ⟨rfl, hz⟩; have hz := Lib.hid hz)
        have XZ := Lib.hid (ext_trans XX.out hz.out)
        have KB := Lib.hid (((ext_iff.1 hz.out).block _ (lt_of_heap IB.out)).trans IB.out)
        have SX := Lib.hid (fun W (hW : ∃ z, W = ext wz z) => D5.out.src.ext (ext_trans XZ.out hW))
        have RQ := Lib.hid (fun W (hW : ∃ z, W = ext wz z) => (recsAt_of RA.out (fun k hk => (ext_iff.1 (ext_trans XZ.out hW)).block k hk) (ext_iff.1 (ext_trans XZ.out hW)).size : recsAt W _ R.S.L))
        have hxw := hx
        have FO := fun (W : World) (hW : ∃ z, W = ext wz z) => fopen_any ⟨k0, u0, t0, r0, v0⟩ ⟨(k : Int) + 1, u0, g0, p0, b0⟩ W V vb _ secS R.S.many R.S.has (VI.out.ext (ext_trans XZ.out hW)) (GV.out.ext (ext_trans XZ.out hW)) TO.out.1 TO.out.2.2.2.1
        unfold OpenPost openV recV evV at FO
        dsimp only at FO
        generalize hee : (if lostR R.S.many R.S.has ⟨(k : Int) + 1, u0, g0, p0, b0⟩ = true then zeroE else (⟨k0, u0, t0, r0, v0⟩ : Ev)) = ee at FO
        generalize hxv : (if lostR R.S.many R.S.has ⟨(k : Int) + 1, u0, g0, p0, b0⟩ = true then errV 8 else Value.nilIface) = xv at FO
        obtain ⟨ke, se, te, re, ve⟩ := ee
        dsimp only at FO
        have FO := Lib.hid FO
        have HEE := Lib.hid hee
        have HXV := Lib.hid hxv
        have HT5 := Lib.hid T5
        have HGEN := Lib.hid hgen
        clear hee hxv T5 hgen hz FB CAP OBX EOX RAX obc hob ibc hib o0 o1 o2 o3 o4 hgo hx
        refine wp_region_slots (frFb q1 l.length cp1 sb ob ib vr gon g o R.S.L.length c5 go oo R.ok.length co qa k u2 u46 u47 u64 u65 u66 u67 u68 u69 u70 u71 u72 u73 u74 u75 u76 u77 u78 u79 u80 u81 u82 u83 u84 u85 u86 u87 u88 u89 u90 u91 u92 u93 u94 u95 u96 u97 u98 u99 u100 u101 u102 u103 u104 u105 u106 u107 u108 u109 u110 u111 u112 u113 u114 u115 u116 u117 u118 u119 u120 u121 u122 u123 u124 u125 u126 u127 u128 u129) dstFb (fun k => if k = 55 then u55 else if k = 56 then u56 else if k = 57 then u57 else if k = 58 then u58 else if k = 59 then u59 else if k = 60 then u60 else if k = 61 then u61 else if k = 54 then u54 else if k = 62 then u62 else if k = 63 then u63 else if k = 11 then u11 else if k = 12 then u12 else undef) (laysFb sb vb g o R.S.L.length c5 k u0 g0 p0 b0 ke se te re ve xv) (fun L g w => newA 51 wz #[.int .i64 0, .string ⟨#[]⟩, .string ⟨#[]⟩, .string ⟨#[]⟩, .string ⟨#[]⟩] #[.int .i64 ke, .string se, .string te, .string re, .string ve] (L 10) (L 11) (g 11) w) (fun w w' => True) (by kernel_rfl) (by kernel_rfl) rfl ?_ (by kernel_rfl) (newA.start _ _ _ _ _) ?_ ?_
        · exact fun _ _ _ _ _ h => h
        · refine ⟨?_, ?_, ?_, ?_, ?_, ?_, ?_, ?_, ?_, ?_, ?_, ?_, ?_, trivial⟩
          all_goals (intro L gs w1 hLi hdeps hR hC; refine ends_of fun Q hQ => ?_)
          · have HQ := fun (a' : Act) (va : Value) (w' : World) (h1 : a' = frFb q1 l.length cp1 sb ob ib vr gon g o R.S.L.length c5 go oo R.ok.length co qa k u2 u46 u47 u64 u65 u66 u67 u68 u69 u70 u71 u72 u73 u74 u75 u76 u77 u78 u79 u80 u81 u82 u83 u84 u85 u86 u87 u88 u89 u90 u91 u92 u93 u94 u95 u96 u97 u98 u99 u100 u101 u102 u103 u104 u105 u106 u107 u108 u109 u110 u111 u112 u113 u114 u115 u116 u117 u118 u119 u120 u121 u122 u123 u124 u125 u126 u127 u128 u129 (upd1 gs 55 va)) h2 (h3 : laysFb sb vb g o R.S.L.length c5 k u0 g0 p0 b0 ke se te re ve xv 0 va w') h4 => hQ.out a' w' ⟨va, h1, h2, h3, h4⟩
            unfold frFb
            go_wp2_with fail
            exact HQ _ (.pointer (some ⟨sb, 0, none⟩)) _ (by simp only [frFb, upd1, Nat.reduceEqDiff, reduceIte]) trivial rfl hC
          · have HQ := fun (a' : Act) (va : Value) (w' : World) (h1 : a' = frFb q1 l.length cp1 sb ob ib vr gon g o R.S.L.length c5 go oo R.ok.length co qa k u2 u46 u47 u64 u65 u66 u67 u68 u69 u70 u71 u72 u73 u74 u75 u76 u77 u78 u79 u80 u81 u82 u83 u84 u85 u86 u87 u88 u89 u90 u91 u92 u93 u94 u95 u96 u97 u98 u99 u100 u101 u102 u103 u104 u105 u106 u107 u108 u109 u110 u111 u112 u113 u114 u115 u116 u117 u118 u119 u120 u121 u122 u123 u124 u125 u126 u127 u128 u129 (upd1 gs 56 va)) h2 (h3 : laysFb sb vb g o R.S.L.length c5 k u0 g0 p0 b0 ke se te re ve xv 1 va w') h4 => hQ.out a' w' ⟨va, h1, h2, h3, h4⟩
            have r0 : gs 55 = .pointer (some ⟨sb, 0, none⟩) := hR 0 (hdeps ⟨0, .data⟩ (by simp) rfl)
            unfold frFb
            go_wp2_with fail
            refine (svault_any w1 V F sb vb _ secS _ (SX.out w1 (ext_of hC.1))).mono ?_
            rintro _ w5 ⟨rfl, rfl⟩
            go_wp2_with fail
            exact HQ _ (.pointer (some ⟨vb, 0, none⟩)) _ (by simp only [frFb, upd1, r0, Nat.reduceEqDiff, reduceIte]) trivial rfl hC
          · have HQ := fun (a' : Act) (va : Value) (w' : World) (h1 : a' = frFb q1 l.length cp1 sb ob ib vr gon g o R.S.L.length c5 go oo R.ok.length co qa k u2 u46 u47 u64 u65 u66 u67 u68 u69 u70 u71 u72 u73 u74 u75 u76 u77 u78 u79 u80 u81 u82 u83 u84 u85 u86 u87 u88 u89 u90 u91 u92 u93 u94 u95 u96 u97 u98 u99 u100 u101 u102 u103 u104 u105 u106 u107 u108 u109 u110 u111 u112 u113 u114 u115 u116 u117 u118 u119 u120 u121 u122 u123 u124 u125 u126 u127 u128 u129 (upd1 gs 57 va)) h2 (h3 : laysFb sb vb g o R.S.L.length c5 k u0 g0 p0 b0 ke se te re ve xv 2 va w') h4 => hQ.out a' w' ⟨va, h1, h2, h3, h4⟩
            unfold frFb
            go_wp2_with fail
            exact HQ _ (.slice (some ⟨g, o, none⟩) R.S.L.length c5) _ (by simp only [frFb, upd1, Nat.reduceEqDiff, reduceIte]) trivial rfl hC
          · have HQ := fun (a' : Act) (va : Value) (w' : World) (h1 : a' = frFb q1 l.length cp1 sb ob ib vr gon g o R.S.L.length c5 go oo R.ok.length co qa k u2 u46 u47 u64 u65 u66 u67 u68 u69 u70 u71 u72 u73 u74 u75 u76 u77 u78 u79 u80 u81 u82 u83 u84 u85 u86 u87 u88 u89 u90 u91 u92 u93 u94 u95 u96 u97 u98 u99 u100 u101 u102 u103 u104 u105 u106 u107 u108 u109 u110 u111 u112 u113 u114 u115 u116 u117 u118 u119 u120 u121 u122 u123 u124 u125 u126 u127 u128 u129 (upd1 gs 58 va)) h2 (h3 : laysFb sb vb g o R.S.L.length c5 k u0 g0 p0 b0 ke se te re ve xv 3 va w') h4 => hQ.out a' w' ⟨va, h1, h2, h3, h4⟩
            have kb := (hC.1.block _ (lt_of_heap KB.out)).trans KB.out
            have k9 : w1.cell? ⟨ib, 0, none⟩ = some (.int .i64 k) := by rw [cell_in, kb]; rfl
            have lw1 := lt_of_heap kb
            unfold frFb
            go_wp2_with fail
            exact HQ _ (.int .i64 k) _ (by simp only [frFb, upd1, Nat.reduceEqDiff, reduceIte]) trivial rfl hC
          · have HQ := fun (a' : Act) (va : Value) (w' : World) (h1 : a' = frFb q1 l.length cp1 sb ob ib vr gon g o R.S.L.length c5 go oo R.ok.length co qa k u2 u46 u47 u64 u65 u66 u67 u68 u69 u70 u71 u72 u73 u74 u75 u76 u77 u78 u79 u80 u81 u82 u83 u84 u85 u86 u87 u88 u89 u90 u91 u92 u93 u94 u95 u96 u97 u98 u99 u100 u101 u102 u103 u104 u105 u106 u107 u108 u109 u110 u111 u112 u113 u114 u115 u116 u117 u118 u119 u120 u121 u122 u123 u124 u125 u126 u127 u128 u129 (upd1 gs 59 va)) h2 (h3 : laysFb sb vb g o R.S.L.length c5 k u0 g0 p0 b0 ke se te re ve xv 4 va w') h4 => hQ.out a' w' ⟨va, h1, h2, h3, h4⟩
            have r2 : gs 57 = .slice (some ⟨g, o, none⟩) R.S.L.length c5 := hR 2 (hdeps ⟨2, .data⟩ (by simp) rfl)
            have r3 : gs 58 = .int .i64 k := hR 3 (hdeps ⟨3, .data⟩ (by simp) rfl)
            unfold frFb
            go_wp2_with fail
            exact HQ _ (.pointer (some ⟨g, o + k * 5, none⟩)) _ (by simp only [frFb, upd1, r2, r3, Nat.reduceEqDiff, reduceIte]) trivial rfl hC
          · have HQ := fun (a' : Act) (va : Value) (w' : World) (h1 : a' = frFb q1 l.length cp1 sb ob ib vr gon g o R.S.L.length c5 go oo R.ok.length co qa k u2 u46 u47 u64 u65 u66 u67 u68 u69 u70 u71 u72 u73 u74 u75 u76 u77 u78 u79 u80 u81 u82 u83 u84 u85 u86 u87 u88 u89 u90 u91 u92 u93 u94 u95 u96 u97 u98 u99 u100 u101 u102 u103 u104 u105 u106 u107 u108 u109 u110 u111 u112 u113 u114 u115 u116 u117 u118 u119 u120 u121 u122 u123 u124 u125 u126 u127 u128 u129 (upd1 gs 60 va)) h2 (h3 : laysFb sb vb g o R.S.L.length c5 k u0 g0 p0 b0 ke se te re ve xv 5 va w') h4 => hQ.out a' w' ⟨va, h1, h2, h3, h4⟩
            have r4 : gs 59 = .pointer (some ⟨g, o + k * 5, none⟩) := hR 4 (hdeps ⟨4, .data⟩ (by simp) rfl)
            obtain ⟨g', o', hq', e0, e1, e2, e3, e4, hg'⟩ := recsAt_row (RQ.out w1 (ext_of hC.1)) hxw
            simp only [Option.some.injEq, Addr.mk.injEq, and_true] at hq'
            obtain ⟨rfl, rfl⟩ := hq'
            dsimp only at e0 e1 e2 e3 e4
            unfold frFb
            go_wp2_with fail
            exact HQ _ (.agg #[.int .i64 (k + 1), .string u0, .int .i64 g0, .string p0, .string b0]) _ (by simp only [frFb, upd1, r4, Nat.reduceEqDiff, reduceIte]) trivial rfl hC
          · have HQ := fun (a' : Act) (va : Value) (w' : World) (h1 : a' = frFb q1 l.length cp1 sb ob ib vr gon g o R.S.L.length c5 go oo R.ok.length co qa k u2 u46 u47 u64 u65 u66 u67 u68 u69 u70 u71 u72 u73 u74 u75 u76 u77 u78 u79 u80 u81 u82 u83 u84 u85 u86 u87 u88 u89 u90 u91 u92 u93 u94 u95 u96 u97 u98 u99 u100 u101 u102 u103 u104 u105 u106 u107 u108 u109 u110 u111 u112 u113 u114 u115 u116 u117 u118 u119 u120 u121 u122 u123 u124 u125 u126 u127 u128 u129 (upd1 gs 61 va)) h2 (h3 : laysFb sb vb g o R.S.L.length c5 k u0 g0 p0 b0 ke se te re ve xv 6 va w') h4 => hQ.out a' w' ⟨va, h1, h2, h3, h4⟩
            have r1 : gs 56 = .pointer (some ⟨vb, 0, none⟩) := hR 1 (hdeps ⟨1, .data⟩ (by simp) rfl)
            have r5 : gs 60 = .agg #[.int .i64 (k + 1), .string u0, .int .i64 g0, .string p0, .string b0] := hR 5 (hdeps ⟨5, .data⟩ (by simp) rfl)
            unfold frFb
            go_wp2_with fail
            refine (FO.out w1 (ext_of hC.1)).mono ?_
            rintro _ w5 ⟨rfl, hx⟩
            go_wp2_with fail
            exact HQ _ (.tuple #[.agg #[.int .i64 ke, .string se, .string te, .string re, .string ve], xv]) _ (by simp only [frFb, upd1, r1, r5, Nat.reduceEqDiff, reduceIte]) trivial rfl (newA.ext hC hx)
          · have HQ := fun (a' : Act) (va : Value) (w' : World) (h1 : a' = frFb q1 l.length cp1 sb ob ib vr gon g o R.S.L.length c5 go oo R.ok.length co qa k u2 u46 u47 u64 u65 u66 u67 u68 u69 u70 u71 u72 u73 u74 u75 u76 u77 u78 u79 u80 u81 u82 u83 u84 u85 u86 u87 u88 u89 u90 u91 u92 u93 u94 u95 u96 u97 u98 u99 u100 u101 u102 u103 u104 u105 u106 u107 u108 u109 u110 u111 u112 u113 u114 u115 u116 u117 u118 u119 u120 u121 u122 u123 u124 u125 u126 u127 u128 u129 (upd1 gs 54 va)) h2 (h3 : laysFb sb vb g o R.S.L.length c5 k u0 g0 p0 b0 ke se te re ve xv 7 va w') h4 => hQ.out a' w' ⟨va, h1, h2, h3, h4⟩
            have r6 : gs 61 = .tuple #[.agg #[.int .i64 ke, .string se, .string te, .string re, .string ve], xv] := hR 6 (hdeps ⟨6, .data⟩ (by simp) rfl)
            unfold frFb
            go_wp2_with fail
            exact HQ _ (.tuple #[.agg #[.int .i64 ke, .string se, .string te, .string re, .string ve], xv]) _ (by simp only [frFb, upd1, r6, Nat.reduceEqDiff, reduceIte]) trivial rfl hC
          · have HQ := fun (a' : Act) (va : Value) (w' : World) (h1 : a' = frFb q1 l.length cp1 sb ob ib vr gon g o R.S.L.length c5 go oo R.ok.length co qa k u2 u46 u47 u64 u65 u66 u67 u68 u69 u70 u71 u72 u73 u74 u75 u76 u77 u78 u79 u80 u81 u82 u83 u84 u85 u86 u87 u88 u89 u90 u91 u92 u93 u94 u95 u96 u97 u98 u99 u100 u101 u102 u103 u104 u105 u106 u107 u108 u109 u110 u111 u112 u113 u114 u115 u116 u117 u118 u119 u120 u121 u122 u123 u124 u125 u126 u127 u128 u129 (upd1 gs 62 va)) h2 (h3 : laysFb sb vb g o R.S.L.length c5 k u0 g0 p0 b0 ke se te re ve xv 8 va w') h4 => hQ.out a' w' ⟨va, h1, h2, h3, h4⟩
            have r7 : gs 54 = .tuple #[.agg #[.int .i64 ke, .string se, .string te, .string re, .string ve], xv] := hR 7 (hdeps ⟨7, .data⟩ (by simp) rfl)
            unfold frFb
            go_wp2_with fail
            exact HQ _ (.agg #[.int .i64 ke, .string se, .string te, .string re, .string ve]) _ (by simp only [frFb, upd1, r7, Nat.reduceEqDiff, reduceIte]) trivial rfl hC
          · have HQ := fun (a' : Act) (va : Value) (w' : World) (h1 : a' = frFb q1 l.length cp1 sb ob ib vr gon g o R.S.L.length c5 go oo R.ok.length co qa k u2 u46 u47 u64 u65 u66 u67 u68 u69 u70 u71 u72 u73 u74 u75 u76 u77 u78 u79 u80 u81 u82 u83 u84 u85 u86 u87 u88 u89 u90 u91 u92 u93 u94 u95 u96 u97 u98 u99 u100 u101 u102 u103 u104 u105 u106 u107 u108 u109 u110 u111 u112 u113 u114 u115 u116 u117 u118 u119 u120 u121 u122 u123 u124 u125 u126 u127 u128 u129 (upd1 gs 63 va)) h2 (h3 : laysFb sb vb g o R.S.L.length c5 k u0 g0 p0 b0 ke se te re ve xv 9 va w') h4 => hQ.out a' w' ⟨va, h1, h2, h3, h4⟩
            have r7 : gs 54 = .tuple #[.agg #[.int .i64 ke, .string se, .string te, .string re, .string ve], xv] := hR 7 (hdeps ⟨7, .data⟩ (by simp) rfl)
            unfold frFb
            go_wp2_with fail
            exact HQ _ (xv) _ (by simp only [frFb, upd1, r7, Nat.reduceEqDiff, reduceIte]) trivial rfl hC
          · have HQ := fun (a' : Act) (va : Value) (w' : World) (h1 : a' = frFb q1 l.length cp1 sb ob ib vr gon g o R.S.L.length c5 go oo R.ok.length co qa k u2 u46 u47 u64 u65 u66 u67 u68 u69 u70 u71 u72 u73 u74 u75 u76 u77 u78 u79 u80 u81 u82 u83 u84 u85 u86 u87 u88 u89 u90 u91 u92 u93 u94 u95 u96 u97 u98 u99 u100 u101 u102 u103 u104 u105 u106 u107 u108 u109 u110 u111 u112 u113 u114 u115 u116 u117 u118 u119 u120 u121 u122 u123 u124 u125 u126 u127 u128 u129 (upd1 gs 11 va)) h2 (h3 : laysFb sb vb g o R.S.L.length c5 k u0 g0 p0 b0 ke se te re ve xv 10 va w') h4 => hQ.out a' w' ⟨va, h1, h2, h3, h4⟩
            unfold frFb
            go_wp2_with fail
            exact HQ _ (.pointer (some ⟨w1.heap.size, 0, none⟩)) _ (by simp only [frFb, upd1, Nat.reduceEqDiff, reduceIte]) trivial ⟨_, rfl⟩ (newA.made hC hLi)
          · have HQ := fun (a' : Act) (va : Value) (w' : World) (h1 : a' = frFb q1 l.length cp1 sb ob ib vr gon g o R.S.L.length c5 go oo R.ok.length co qa k u2 u46 u47 u64 u65 u66 u67 u68 u69 u70 u71 u72 u73 u74 u75 u76 u77 u78 u79 u80 u81 u82 u83 u84 u85 u86 u87 u88 u89 u90 u91 u92 u93 u94 u95 u96 u97 u98 u99 u100 u101 u102 u103 u104 u105 u106 u107 u108 u109 u110 u111 u112 u113 u114 u115 u116 u117 u118 u119 u120 u121 u122 u123 u124 u125 u126 u127 u128 u129 (upd1 gs 1011 va)) h2 (h3 : laysFb sb vb g o R.S.L.length c5 k u0 g0 p0 b0 ke se te re ve xv 11 va w') h4 => hQ.out a' w' ⟨va, h1, h2, h3, h4⟩
            have r8 : gs 62 = .agg #[.int .i64 ke, .string se, .string te, .string re, .string ve] := hR 8 (hdeps ⟨8, .data⟩ (by simp) rfl)
            have r10 := hR 10 (hdeps ⟨10, .data⟩ (by simp) rfl)
            obtain ⟨p, hp⟩ := r10
            change gs 11 = _ at hp
            have l10 : L 10 = true := hdeps ⟨10, .data⟩ (by simp) rfl
            obtain ⟨p', hp', hpl, hpb⟩ := hC.2.2 l10
            rw [hp] at hp'
            injection hp' with hp'
            injection hp' with hp'
            injection hp' with hp'
            subst hp'
            rw [show L 11 = false from hLi] at hpb
            have hpb : w1.heap[p]? = some (.cells #[.int .i64 0, .string ⟨#[]⟩, .string ⟨#[]⟩, .string ⟨#[]⟩, .string ⟨#[]⟩] 51 (0, 0)) := hpb
            have lw1 := lt_of_heap hpb
            have ff := free_of_heap hpb
            have HH := Lib.hid (setEvAt hpb (.int .i64 ke) (.string se) (.string te) (.string re) (.string ve))
            obtain ⟨y0, y1, y2, y3, y4⟩ := ev_cells hpb
            clear hpb
            unfold frFb
            go_wp2_with fail
            exact HQ _ undef _ (by simp only [frFb, upd1, r8, hp, Nat.reduceEqDiff, reduceIte]) trivial trivial (newA.put hC l10 hp HH.out.1 HH.out.2)
          · have HQ := fun (a' : Act) (va : Value) (w' : World) (h1 : a' = frFb q1 l.length cp1 sb ob ib vr gon g o R.S.L.length c5 go oo R.ok.length co qa k u2 u46 u47 u64 u65 u66 u67 u68 u69 u70 u71 u72 u73 u74 u75 u76 u77 u78 u79 u80 u81 u82 u83 u84 u85 u86 u87 u88 u89 u90 u91 u92 u93 u94 u95 u96 u97 u98 u99 u100 u101 u102 u103 u104 u105 u106 u107 u108 u109 u110 u111 u112 u113 u114 u115 u116 u117 u118 u119 u120 u121 u122 u123 u124 u125 u126 u127 u128 u129 (upd1 gs 12 va)) h2 (h3 : laysFb sb vb g o R.S.L.length c5 k u0 g0 p0 b0 ke se te re ve xv 12 va w') h4 => hQ.out a' w' ⟨va, h1, h2, h3, h4⟩
            have r9 : gs 63 = xv := hR 9 (hdeps ⟨9, .data⟩ (by simp) rfl)
            unfold frFb
            go_wp2_with fail
            exact HQ _ (xv) _ (by simp only [frFb, upd1, r9, Nat.reduceEqDiff, reduceIte]) trivial rfl hC
        intro L16 g16 w16 hall hR hC
        obtain ⟨p11, hp11, hpl, hpb⟩ := hC.2.2 (hall 10 (by decide))
        rw [hall 11 (by decide), if_pos rfl] at hpb
        have EA := Lib.hid hpb
        have s12 : g16 12 = xv := hR 12 (by decide)
        have XA := Lib.hid (ext_trans XZ.out (ext_of hC.1))
        have KA := Lib.hid ((hC.1.block _ (lt_of_heap KB.out)).trans KB.out)
        clear hC hall hR hpb hpl RQ SX FO KB XZ XX
        unfold frFb
        rw [hp11, s12]
        clear hp11 s12
        generalize w16 = WA at EA XA KA ⊢
        cases hlo : lostR R.S.many R.S.has ⟨(k : Int) + 1, u0, g0, p0, b0⟩ with
        | true =>
          obtain rfl : errV 8 = xv := by have := HXV.out; rw [hlo, if_pos rfl] at this; exact this
          have hee := HEE.out
          rw [hlo, if_pos rfl] at hee
          unfold zeroE at hee
          injection hee with h1 h2 h3 h4 h5
          subst h1 h2 h3 h4 h5
          have hk3 : k0 ≠ 3 := by have := HT5.out; rw [hlo] at this; intro h; rw [h] at this; simp at this
          obtain rfl : gon = true := by have := HT5.out; rw [hlo] at this; simpa [hk3] using this.symm
          have hk3b : (k0 != 3) = true := by simp [hk3]
          have hk3c : (k0 == 3) = false := by simp [hk3]
          have hg3 : (g0 == 0) = false := by have := HGEN.out; simp; omega
          clear hk3
          clear HT5 HGEN TO HEE HXV
          unfold errV
          have bx := ext_iff.1 XA.out
          have OBA := Lib.hid ((bx.block _ (lt_of_heap OB5.out)).trans OB5.out)
          have obc := cellB OBA.out
          have hob := lt_of_heap OBA.out
          have ibc := cellB KA.out
          have hib := lt_of_heap KA.out
          have ly := lt_of_heap EA.out
          obtain ⟨y0, y1, y2, y3, y4⟩ := ev_cells EA.out
          have EOA := EO.out.at bx (Nat.le_refl _)
          obtain ⟨go', oo', hqo, hgo, o0, o1, o2, o3, o4⟩ := EOA.row he
          simp only [Option.some.injEq, Addr.mk.injEq, and_true] at hqo
          obtain ⟨rfl, rfl⟩ := hqo
          obtain ⟨g', o', hqr, e0, e1, e2, e3, e4, hg'⟩ := recsAt_row (recsAt_of RA.out (fun k hk => bx.block k hk) bx.size) hxw
          simp only [Option.some.injEq, Addr.mk.injEq, and_true] at hqr
          obtain ⟨rfl, rfl⟩ := hqr
          dsimp only at o0 o1 o2 o3 o4 e0 e1 e2 e3 e4
          clear bx EOA
          go_wp2_with fail
          have TE := tell_any (.iface 65 (.int .i64 8)) (.no 8) WA (GV.out.ext XA.out).err
          rw [show errNum (.iface 65 (.int .i64 8)) = 8 from rfl] at TE
          refine TE.mono ?_
          rintro _ wt ⟨rfl, hxt⟩
          obtain ⟨y, rfl⟩ := hxt
          have XB := Lib.hid (ext_trans XA.out ⟨y, rfl⟩)
          have KB := Lib.hid (((ext_iff.1 ⟨y, rfl⟩ : Below WA.heap.size WA (ext WA y)).block _ (lt_of_heap KA.out)).trans KA.out)
          have EB := Lib.hid (((ext_iff.1 ⟨y, rfl⟩ : Below WA.heap.size WA (ext WA y)).block _ (lt_of_heap EA.out)).trans EA.out)
          generalize ext WA y = WB at XB KB EB ⊢
          clear TE XA KA EA OBA obc hob ibc hib ly y0 y1 y2 y3 y4 hgo o0 o1 o2 o3 o4 e0 e1 e2 e3 e4 hg'
          have bx := ext_iff.1 XB.out
          have OBA := Lib.hid ((bx.block _ (lt_of_heap OB5.out)).trans OB5.out)
          have obc := cellB OBA.out
          have hob := lt_of_heap OBA.out
          have ibc := cellB KB.out
          have hib := lt_of_heap KB.out
          have ly := lt_of_heap EB.out
          obtain ⟨y0, y1, y2, y3, y4⟩ := ev_cells EB.out
          have EOA := EO.out.at bx (Nat.le_refl _)
          obtain ⟨go', oo', hqo, hgo, o0, o1, o2, o3, o4⟩ := EOA.row he
          simp only [Option.some.injEq, Addr.mk.injEq, and_true] at hqo
          obtain ⟨rfl, rfl⟩ := hqo
          obtain ⟨g', o', hqr, e0, e1, e2, e3, e4, hg'⟩ := recsAt_row (recsAt_of RA.out (fun k hk => bx.block k hk) bx.size) hxw
          simp only [Option.some.injEq, Addr.mk.injEq, and_true] at hqr
          obtain ⟨rfl, rfl⟩ := hqr
          dsimp only at o0 o1 o2 o3 o4 e0 e1 e2 e3 e4
          clear bx EOA
          go_wp2_with fail
          refine wp_region_ext (by kernel_rfl) (by kernel_rfl) ?_
          repeat (go_big_quiet_step (fail))
          refine wpQuiet_nil ?_
          rintro _ ⟨y, rfl⟩
          have XD := Lib.hid (ext_trans XB.out ⟨y, rfl⟩)
          have KD := Lib.hid (((ext_iff.1 ⟨y, rfl⟩ : Below WB.heap.size WB (ext WB y)).block _ (lt_of_heap KB.out)).trans KB.out)
          have ED := Lib.hid (((ext_iff.1 ⟨y, rfl⟩ : Below WB.heap.size WB (ext WB y)).block _ (lt_of_heap EB.out)).trans EB.out)
          generalize ext WB y = WD at XD KD ED ⊢
          clear XB KB EB OBA obc hob ibc hib ly y0 y1 y2 y3 y4 hgo o0 o1 o2 o3 o4 e0 e1 e2 e3 e4 hg'
          have kz := cellB KD.out
          have hkz := lt_of_heap KD.out
          go_wp2_with fail
          go_roundw
          case rel =>
            exact ⟨k + 1, _, hlt, rfl, Lib.hid (heap_alloc_at WD (.cells #[.int .i64 ((k + 1 : Nat) : Int)] 3)), Lib.hid (ext_alloc _ XD.out)⟩
          case measure =>
            have m1 := rdB_at (heap_alloc_at WD (.cells #[.int .i64 ((k + 1 : Nat) : Int)] 3))
            have m2 := rdB_at IB.out
            rw [show ((k : Int) + 1) = ((k + 1 : Nat) : Int) from rfl, m1, m2]
            omega
        | false =>
          obtain rfl : Value.nilIface = xv := by have := HXV.out; rw [hlo, if_neg (by simp)] at this; exact this
          have hee := HEE.out
          rw [hlo, if_neg (by simp)] at hee
          injection hee with h1 h2 h3 h4 h5
          subst h1 h2 h3 h4 h5
          by_cases hk3 : k0 = 3
          ·
            subst hk3
            obtain rfl : g0 = 0 := HGEN.out.2 rfl
            clear HT5 HGEN TO HEE HXV
            have bx := ext_iff.1 XA.out
            have OBA := Lib.hid ((bx.block _ (lt_of_heap OB5.out)).trans OB5.out)
            have obc := cellB OBA.out
            have hob := lt_of_heap OBA.out
            have ibc := cellB KA.out
            have hib := lt_of_heap KA.out
            have ly := lt_of_heap EA.out
            obtain ⟨y0, y1, y2, y3, y4⟩ := ev_cells EA.out
            have EOA := EO.out.at bx (Nat.le_refl _)
            obtain ⟨go', oo', hqo, hgo, o0, o1, o2, o3, o4⟩ := EOA.row he
            simp only [Option.some.injEq, Addr.mk.injEq, and_true] at hqo
            obtain ⟨rfl, rfl⟩ := hqo
            obtain ⟨g', o', hqr, e0, e1, e2, e3, e4, hg'⟩ := recsAt_row (recsAt_of RA.out (fun k hk => bx.block k hk) bx.size) hxw
            simp only [Option.some.injEq, Addr.mk.injEq, and_true] at hqr
            obtain ⟨rfl, rfl⟩ := hqr
            dsimp only at o0 o1 o2 o3 o4 e0 e1 e2 e3 e4
            clear bx EOA
            go_wp2_with fail
            refine wp_region_ext (by kernel_rfl) (by kernel_rfl) ?_
            repeat (go_big_quiet_step (fail))
            refine wpQuiet_nil ?_
            rintro _ ⟨y, rfl⟩
            have XB := Lib.hid (ext_trans XA.out ⟨y, rfl⟩)
            have KB := Lib.hid (((ext_iff.1 ⟨y, rfl⟩ : Below WA.heap.size WA (ext WA y)).block _ (lt_of_heap KA.out)).trans KA.out)
            have EB := Lib.hid (((ext_iff.1 ⟨y, rfl⟩ : Below WA.heap.size WA (ext WA y)).block _ (lt_of_heap EA.out)).trans EA.out)
            generalize ext WA y = WB at XB KB EB ⊢
            clear XA KA EA OBA obc hob ibc hib ly y0 y1 y2 y3 y4 hgo o0 o1 o2 o3 o4 e0 e1 e2 e3 e4 hg'
            have bx := ext_iff.1 XB.out
            have OBA := Lib.hid ((bx.block _ (lt_of_heap OB5.out)).trans OB5.out)
            have obc := cellB OBA.out
            have hob := lt_of_heap OBA.out
            have ibc := cellB KB.out
            have hib := lt_of_heap KB.out
            have ly := lt_of_heap EB.out
            obtain ⟨y0, y1, y2, y3, y4⟩ := ev_cells EB.out
            have EOA := EO.out.at bx (Nat.le_refl _)
            obtain ⟨go', oo', hqo, hgo, o0, o1, o2, o3, o4⟩ := EOA.row he
            simp only [Option.some.injEq, Addr.mk.injEq, and_true] at hqo
            obtain ⟨rfl, rfl⟩ := hqo
            obtain ⟨g', o', hqr, e0, e1, e2, e3, e4, hg'⟩ := recsAt_row (recsAt_of RA.out (fun k hk => bx.block k hk) bx.size) hxw
            simp only [Option.some.injEq, Addr.mk.injEq, and_true] at hqr
            obtain ⟨rfl, rfl⟩ := hqr
            dsimp only at o0 o1 o2 o3 o4 e0 e1 e2 e3 e4
            clear bx EOA
            go_wp2_with fail
            refine wp_region_ext (by kernel_rfl) (by kernel_rfl) ?_
            repeat (go_big_quiet_step (fail))
            refine wpQuiet_nil ?_
            rintro _ ⟨y, rfl⟩
            have XD := Lib.hid (ext_trans XB.out ⟨y, rfl⟩)
            have KD := Lib.hid (((ext_iff.1 ⟨y, rfl⟩ : Below WB.heap.size WB (ext WB y)).block _ (lt_of_heap KB.out)).trans KB.out)
            have ED := Lib.hid (((ext_iff.1 ⟨y, rfl⟩ : Below WB.heap.size WB (ext WB y)).block _ (lt_of_heap EB.out)).trans EB.out)
            generalize ext WB y = WD at XD KD ED ⊢
            clear XB KB EB OBA obc hob ibc hib ly y0 y1 y2 y3 y4 hgo o0 o1 o2 o3 o4 e0 e1 e2 e3 e4 hg'
            have kz := cellB KD.out
            have hkz := lt_of_heap KD.out
            go_wp2_with fail
            go_roundw
            case rel =>
              exact ⟨k + 1, _, hlt, rfl, Lib.hid (heap_alloc_at WD (.cells #[.int .i64 ((k + 1 : Nat) : Int)] 3)), Lib.hid (ext_alloc _ XD.out)⟩
            case measure =>
              have m1 := rdB_at (heap_alloc_at WD (.cells #[.int .i64 ((k + 1 : Nat) : Int)] 3))
              have m2 := rdB_at IB.out
              rw [show ((k : Int) + 1) = ((k + 1 : Nat) : Int) from rfl, m1, m2]
              omega
          ·
            obtain rfl : gon = false := by have := HT5.out; rw [hlo] at this; simpa [hk3] using this.symm
            have hk3b : (k0 != 3) = true := by simp [hk3]
            have hk3c : (k0 == 3) = false := by simp [hk3]
            have hg3 : (g0 == 0) = false := by have := HGEN.out; simp; omega
            clear hk3
            clear HT5 HGEN TO HEE HXV
            have bx := ext_iff.1 XA.out
            have OBA := Lib.hid ((bx.block _ (lt_of_heap OB5.out)).trans OB5.out)
            have obc := cellB OBA.out
            have hob := lt_of_heap OBA.out
            have ibc := cellB KA.out
            have hib := lt_of_heap KA.out
            have ly := lt_of_heap EA.out
            obtain ⟨y0, y1, y2, y3, y4⟩ := ev_cells EA.out
            have EOA := EO.out.at bx (Nat.le_refl _)
            obtain ⟨go', oo', hqo, hgo, o0, o1, o2, o3, o4⟩ := EOA.row he
            simp only [Option.some.injEq, Addr.mk.injEq, and_true] at hqo
            obtain ⟨rfl, rfl⟩ := hqo
            obtain ⟨g', o', hqr, e0, e1, e2, e3, e4, hg'⟩ := recsAt_row (recsAt_of RA.out (fun k hk => bx.block k hk) bx.size) hxw
            simp only [Option.some.injEq, Addr.mk.injEq, and_true] at hqr
            obtain ⟨rfl, rfl⟩ := hqr
            dsimp only at o0 o1 o2 o3 o4 e0 e1 e2 e3 e4
            clear bx EOA
            go_wp2_with fail
            refine wp_region_ext (by kernel_rfl) (by kernel_rfl) ?_
            repeat (go_big_quiet_step (fail))
            refine wpQuiet_nil ?_
            rintro _ ⟨y, rfl⟩
            have XB := Lib.hid (ext_trans XA.out ⟨y, rfl⟩)
            have KB := Lib.hid (((ext_iff.1 ⟨y, rfl⟩ : Below WA.heap.size WA (ext WA y)).block _ (lt_of_heap KA.out)).trans KA.out)
            have EB := Lib.hid (((ext_iff.1 ⟨y, rfl⟩ : Below WA.heap.size WA (ext WA y)).block _ (lt_of_heap EA.out)).trans EA.out)
            generalize ext WA y = WB at XB KB EB ⊢
            clear XA KA EA OBA obc hob ibc hib ly y0 y1 y2 y3 y4 hgo o0 o1 o2 o3 o4 e0 e1 e2 e3 e4 hg'
            have bx := ext_iff.1 XB.out
            have OBA := Lib.hid ((bx.block _ (lt_of_heap OB5.out)).trans OB5.out)
            have obc := cellB OBA.out
            have hob := lt_of_heap OBA.out
            have ibc := cellB KB.out
            have hib := lt_of_heap KB.out
            have ly := lt_of_heap EB.out
            obtain ⟨y0, y1, y2, y3, y4⟩ := ev_cells EB.out
            have EOA := EO.out.at bx (Nat.le_refl _)
            obtain ⟨go', oo', hqo, hgo, o0, o1, o2, o3, o4⟩ := EOA.row he
            simp only [Option.some.injEq, Addr.mk.injEq, and_true] at hqo
            obtain ⟨rfl, rfl⟩ := hqo
            obtain ⟨g', o', hqr, e0, e1, e2, e3, e4, hg'⟩ := recsAt_row (recsAt_of RA.out (fun k hk => bx.block k hk) bx.size) hxw
            simp only [Option.some.injEq, Addr.mk.injEq, and_true] at hqr
            obtain ⟨rfl, rfl⟩ := hqr
            dsimp only at o0 o1 o2 o3 o4 e0 e1 e2 e3 e4
            clear bx EOA
            go_wp2_with fail
            refine wp_region_ext (by kernel_rfl) (by kernel_rfl) ?_
            repeat (go_big_quiet_step (fail))
            refine wpQuiet_nil ?_
            rintro _ ⟨y, rfl⟩
            have XD := Lib.hid (ext_trans XB.out ⟨y, rfl⟩)
            have KD := Lib.hid (((ext_iff.1 ⟨y, rfl⟩ : Below WB.heap.size WB (ext WB y)).block _ (lt_of_heap KB.out)).trans KB.out)
            have ED := Lib.hid (((ext_iff.1 ⟨y, rfl⟩ : Below WB.heap.size WB (ext WB y)).block _ (lt_of_heap EB.out)).trans EB.out)
            generalize ext WB y = WD at XD KD ED ⊢
            clear XB KB EB OBA obc hob ibc hib ly y0 y1 y2 y3 y4 hgo o0 o1 o2 o3 o4 e0 e1 e2 e3 e4 hg'
            have kz := cellB KD.out
            have hkz := lt_of_heap KD.out
            go_wp2_with fail
            go_roundw
            case rel =>
              exact ⟨k + 1, _, hlt, rfl, Lib.hid (heap_alloc_at WD (.cells #[.int .i64 ((k + 1 : Nat) : Int)] 3)), Lib.hid (ext_alloc _ XD.out)⟩
            case measure =>
              have m1 := rdB_at (heap_alloc_at WD (.cells #[.int .i64 ((k + 1 : Nat) : Int)] 3))
              have m2 := rdB_at IB.out
              rw [show ((k : Int) + 1) = ((k + 1 : Nat) : Int) from rfl, m1, m2]
              omega
      · obtain rfl : k = R.S.L.length := by omega
        go_wp2_with fail
        go_ret
        exact ⟨rfl, ext_trans X5.out XX.out⟩
theorem feedBack_law (q : Option Addr) (cp : Nat) (l : List Ev) (w : World) (hG : Glob w none0) (hl : l.length ≤ 9223372036854775807) (_ : l.length ≤ cp) (h1 : evsAt w q l) (_ : q = none → l.length = 0 ∧ cp = 0) :
    Calls Tryz.prog 6 #[.slice q l.length cp] w (Res true w) := feedBack_any q cp l w hl h1 hG
end Go.Proofs.YtgckpfeeioljeaaGreatDoor
