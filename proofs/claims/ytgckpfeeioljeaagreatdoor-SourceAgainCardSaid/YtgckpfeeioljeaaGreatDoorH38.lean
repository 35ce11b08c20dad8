/- oubliettekeep.SourceAgain (the walk). -/
import Derived.Test.YtgckpfeeioljeaaGreatDoorProg
import Derived.Test.YtgckpfeeioljeaaGreatDoorH31
import Derived.Test.YtgckpfeeioljeaaGreatDoorH36
import Derived.Test.YtgckpfeeioljeaaGreatDoorG31
import Derived.Test.YtgckpfeeioljeaaGreatDoorG43
import Derived.Test.YtgckpfeeioljeaaGreatDoorH28
namespace Go.Proofs.YtgckpfeeioljeaaGreatDoor
open Go.RowKit Go.Shelf

/-- Another source, and the records that it is told of. -/
structure agSt (w0 w : World) (V F : Blk) (sb vb n : Nat) (sec : ByteArray) (S : SrcM) (q : Option Addr) (L : List Rec) : Prop where
  src : srcIn w V F sb vb n sec S
  st : step w0 w none0 F
  recs : recsAt w q L
  offq : ∀ a, q = some a → ¬ F a.block ∧ a.block < w.heap.size
section
variable {w0 w w' : World} {V F F' : Blk} {sb vb n n' : Nat} {sec : ByteArray} {S S' : SrcM} {q : Option Addr} {L : List Rec}
theorem agSt.ext (h : agSt w0 w V F sb vb n sec S q L) (hx : ∃ x, w' = Go.Proofs.YtgckpfeeioljeaaGreatDoor.ext w x) : agSt w0 w' V F sb vb n sec S q L :=
  have hb := ext_iff.1 hx
  ⟨h.src.ext hx, h.st.trans (.of_ext _ hx), recsAt_of h.recs (fun k hk => hb.block k hk) hb.size, fun a ha => ⟨(h.offq a ha).1, Nat.lt_of_lt_of_le (h.offq a ha).2 hb.size⟩⟩
theorem agSt.turn (h : agSt w0 w V F sb vb n sec S q L) (hs : srcIn w' V F' sb vb n' sec S') (g : step w w' F F') : agSt w0 w' V F' sb vb n' sec S' q L := by
  refine ⟨hs, h.st.trans g, recsAt_same h.recs (fun a ha => g.block _ (h.offq a ha).2 (h.offq a ha).1) g.size, fun a ha => ?_⟩
  obtain ⟨_, j2, j3⟩ := g.keep (h.offq a ha).2 (h.offq a ha).1
  exact ⟨j3, j2⟩
theorem agSt.mono (h : agSt w0 w V F sb vb n sec S q L) (hn : n ≤ n') : agSt w0 w V F sb vb n' sec S q L := ⟨h.src.mono hn, h.st, h.recs, h.offq⟩
end
def frAg (q1 : Option Addr) (ll : Nat) (cp1 : Nat) (other : ByteArray) (sb : Nat) (sb2 : Nat) (vo : Value) (vr : Value) (gq : Nat) (o : Nat) (nL : Nat) (c5 : Nat) (k : Nat) (u4 : Value) (u14 : Value) (u15 : Value) (u64 : Value) (u65 : Value) (u76 : Value) (u77 : Value) (u78 : Value) (u79 : Value) (u80 : Value) (u81 : Value) (u82 : Value) (u83 : Value) (u84 : Value) (u85 : Value) (u86 : Value) (u87 : Value) (u88 : Value) (u89 : Value) (u90 : Value) (g : Nat → Value) : Act := { tmps := #[.slice q1 ll cp1, .string other, undef, undef, u4, .pointer (some ⟨sb, 0, none⟩), vo, vr, .pointer (some ⟨sb2, 0, none⟩), .nilIface, .slice (some ⟨gq, o, none⟩) nL c5, .int .i64 k, g 12, g 13, u14, u15, .slice q1 ll cp1, .bool true, .bool false, .bool false, .string other, .int .i64 16, .bool false, .bool false, .bool true, .bool false, .bool false, .bool true, .bool false, .bool false, .tuple #[.pointer (some ⟨sb, 0, none⟩), vo, vr], .slice q1 ll cp1, .tuple #[.pointer (some ⟨sb, 0, none⟩), vo, vr], .pointer (some ⟨sb, 0, none⟩), vo, vr, .tuple #[.pointer (some ⟨sb2, 0, none⟩), .nilIface], .string other, .tuple #[.pointer (some ⟨sb2, 0, none⟩), .nilIface], .pointer (some ⟨sb2, 0, none⟩), .nilIface, .pointer (some ⟨sb, 0, none⟩), .bool false, .bool false, .nilIface, .bool false, .bool false, .bool false, .pointer (some ⟨sb2, 0, none⟩), .bool false, .bool false, undef, undef, undef, undef, undef, undef, undef, .pointer (some ⟨sb, 0, none⟩), .slice (some ⟨gq, o, none⟩) nL c5, .int .i64 k, .slice (some ⟨gq, o, none⟩) nL c5, .int .i64 nL, .bool true, u64, u65, g 66, g 67, g 68, g 69, g 70, g 71, g 72, g 73, g 74, g 75, u76, u77, u78, u79, u80, u81, u82, u83, u84, u85, u86, u87, u88, u89, u90, undef, undef, undef, undef, undef], defers := [] }
def dstAg (i : Nat) : Nat := ([67, 68, 69, 70, 71, 72, 73, 66, 74, 75, 12, 1011, 13] : List Nat).getD i (2000 + i)
def laysAg (sb : Nat) (vb : Nat) (gq : Nat) (o : Nat) (nL : Nat) (c5 : Nat) (k : Nat) (q0 : Int) (u0 : ByteArray) (g0 : Int) (p0 : ByteArray) (b0 : ByteArray) (ke : Int) (se : ByteArray) (te : ByteArray) (re : ByteArray) (ve : ByteArray) (xv : Value) (j : Nat) (v : Value) (_ : World) : Prop :=
  match j with
  | 0 => v = .pointer (some ⟨sb, 0, none⟩)
  | 1 => v = .pointer (some ⟨vb, 0, none⟩)
  | 2 => v = .slice (some ⟨gq, o, none⟩) nL c5
  | 3 => v = .int .i64 k
  | 4 => v = .pointer (some ⟨gq, o + k * 5, none⟩)
  | 5 => v = .agg #[.int .i64 q0, .string u0, .int .i64 g0, .string p0, .string b0]
  | 6 => v = .tuple #[.agg #[.int .i64 ke, .string se, .string te, .string re, .string ve], xv]
  | 7 => v = .tuple #[.agg #[.int .i64 ke, .string se, .string te, .string re, .string ve], xv]
  | 8 => v = .agg #[.int .i64 ke, .string se, .string te, .string re, .string ve]
  | 9 => v = xv
  | 10 => ∃ p, v = .pointer (some ⟨p, 0, none⟩)
  | 12 => v = xv
  | _ => True
set_option maxRecDepth 100000 in
set_option maxHeartbeats 8000000 in
theorem sourceAgain_any (q1 : Option Addr) (cp1 : Nat) (l : List Ev) (other : ByteArray) (w : World) (hl : l.length ≤ 9223372036854775807) (h1 : evsAt w q1 l) (hG : Glob w none0) :
    Calls Tryz.prog 4 #[.slice q1 l.length cp1, .string other] w (Res true w) := by
  have F1 := few_any q1 cp1 l w hl h1
  have S1 := Lib.hid (fun h : fewB l = true => few_sizes h)
  have E1 := Lib.hid h1
  have GG := Lib.hid hG
  clear h1 hG
  go_enter Tryz.func4, Tryz.ntmps4
  go_wp2_with fail
  refine F1.mono ?_
  rintro _ w1 ⟨rfl, hx⟩
  have X1 := Lib.hid hx
  clear hx F1
  generalize fewB l = few1 at S1
  cases few1 with
  | false =>
    go_wp2_with fail
    go_ret
    exact ⟨rfl, X1.out⟩
  | true =>
  by_cases h40 : 40 < other.size
  · have hd : decide ((other.size : Int) > 40) = true := decide_eq_true (by omega)
    go_wp2_with fail
    go_ret
    exact ⟨rfl, X1.out⟩
  · have hd : decide ((other.size : Int) > 40) = false := decide_eq_false (by omega)
    obtain ⟨hl30, hls⟩ := S1.out (by trivial)
    have HLS := Lib.hid hls
    clear S1 hls
    go_wp2_with fail
    refine (fed_any w1 (GG.out.ext X1.out)).mono ?_
    rintro _ w1' ⟨rfl, hx⟩
    have X1' := Lib.hid (ext_trans X1.out hx)
    clear hx X1
    go_wp2_with fail
    refine (applied_any w1').mono ?_
    rintro _ w2 ⟨rfl, hx⟩
    have X2 := Lib.hid (ext_trans X1'.out hx)
    clear hx X1'
    have B2 := Lib.hid (ext_iff.1 X2.out)
    have DN := done_any q1 cp1 l w2 (by omega) HLS.out (E1.out.at B2.out (Nat.le_refl _)) (GG.out.ext X2.out)
    go_wp2_with fail
    refine DN.mono ?_
    rintro _ w3 ⟨sb, vb, V, F, A, vo, vr, vs, rfl, hd3⟩
    have D3 := Lib.hid hd3
    have HRU := Lib.hid (runs secS l)
    have OKL := Lib.hid (show (runM secS l).ok.length ≤ 30 from by have := ok_len secS l; omega)
    clear hd3 DN B2
    generalize runM secS l = R at D3 HRU OKL
    have HLE := Lib.hid HRU.out.inv.len
    have hL30 : R.S.L.length ≤ 30 := by rw [HLE.out]; exact OKL.out
    have X3 := Lib.hid (ext_trans X2.out D3.out.st.ext)
    by_cases h16 : other.size = 16
    · have SN := snew_any other w3 h16
      have hsz : other.size ≤ 1048576 := by omega
      go_wp2_with fail
      refine SN.mono ?_
      rintro _ w4 ⟨sb2, vb2, V2, F2, rfl, hs4, hst4⟩
      have T4 := Lib.hid hs4
      have S4 := Lib.hid hst4
      have D4 := D3.out.src.ext hst4.ext
      clear hs4 hst4 SN
      go_wp2_with fail
      refine (sfeed_any w4 V F sb vb _ secS _ D4).mono ?_
      rintro _ w5 ⟨v5, rfl, ho5, hb5⟩
      obtain ⟨q5, c5, rfl⟩ := ownsRl_shape ho5
      have AG := Lib.hid (show agSt w3 w5 V2 F2 sb2 vb2 (3 * 0) other (runM other (keptE R.ok 0)).S q5 R.S.L from by
        refine ⟨T4.out.ext (ext_of hb5), S4.out.trans (.of_ext F2 (ext_of hb5)), recsAt_owned ho5, fun a ha => ?_⟩
        have := ho5.base (g := a.block) (by rw [ha]; rfl)
        exact ⟨fun hF => by have := T4.out.lt _ hF; omega, this.2⟩)
      clear ho5 hb5 T4 S4 D4
      go_wp2_with fail
      go_loopw [11] (fun iv wr => ∃ (k : Nat) (F2 : Blk), k ≤ R.S.L.length ∧ iv = .int .i64 k ∧ Hid (agSt w3 wr V2 F2 sb2 vb2 (3 * k) other (runM other (keptE R.ok k)).S q5 R.S.L)) (fun iv _ => R.S.L.length - (intOf iv).toNat)
      case atStart => exact ⟨0, F2, Nat.zero_le _, rfl, AG⟩
      case round =>
        clear AG
        obtain ⟨k, F2, hk, rfl, AG⟩ := hrel
        by_cases hlt : k < R.S.L.length
        · have hlt' : (k : Int) < R.S.L.length := by omega
          have hke : k < R.ok.length := by rw [← HLE.out]; exact hlt
          have hx := List.getElem?_eq_getElem hlt
          have he := List.getElem?_eq_getElem hke
          have TO := Lib.hid (HRU.out.inv.told k _ _ hx he)
          have NX := Lib.hid (again_next HRU.out other hx he)
          have RQ := Lib.hid (fun (W : World) (hW : ∃ z, W = ext wr z) => (AG.out.ext hW).recs)
          have hxw := hx
          obtain ⟨g, o, rfl, e0, e1, e2, e3, e4, hg⟩ := recsAt_row AG.out.recs hx
          have FO := Lib.hid (fun (W : World) (hW : ∃ z, W = ext wr z) => fopen_any R.ok[k] R.S.L[k] W V vb _ secS R.S.many R.S.has ((D3.out.src.vault.1).ext (ext_trans AG.out.st.ext hW)) (((GG.out.ext X2.out).step (D3.out.st.more (F' := V) (fun i hi => .inl (D3.out.sub i (D3.out.src.vault.2 i hi))))).ext (ext_trans AG.out.st.ext hW)) TO.out.1 TO.out.2.2.2.1)
          generalize R.S.L[k] = x at hx TO NX e0 e1 e2 e3 e4 FO hxw
          generalize R.ok[k] = e at he TO NX FO
          clear e0 e1 e2 e3 e4
          obtain ⟨q0, u0, g0, p0, b0⟩ := x
          obtain ⟨k0, s0, t0, r0, v0⟩ := e
          go_wp2_with fail
          have SX := Lib.hid (fun W (hW : ∃ z, W = ext wr z) => D3.out.src.ext (ext_trans AG.out.st.ext hW))
          have FO := FO.out
          unfold OpenPost openV recV evV at FO
          dsimp only at FO
          generalize hee : (if lostR R.S.many R.S.has ⟨q0, u0, g0, p0, b0⟩ = true then zeroE else (⟨k0, s0, t0, r0, v0⟩ : Ev)) = ee at FO
          generalize hxv : (if lostR R.S.many R.S.has ⟨q0, u0, g0, p0, b0⟩ = true then errV 8 else Value.nilIface) = xv at FO
          obtain ⟨ke, se, te, re, ve⟩ := ee
          dsimp only at FO
          have FO := Lib.hid FO
          have HEE := Lib.hid hee
          have HXV := Lib.hid hxv
          clear hee hxv
          refine wp_region_slots (frAg q1 l.length cp1 other sb sb2 vo vr g o R.S.L.length c5 k u4 u14 u15 u64 u65 u76 u77 u78 u79 u80 u81 u82 u83 u84 u85 u86 u87 u88 u89 u90) dstAg (fun k => if k = 67 then u67 else if k = 68 then u68 else if k = 69 then u69 else if k = 70 then u70 else if k = 71 then u71 else if k = 72 then u72 else if k = 73 then u73 else if k = 66 then u66 else if k = 74 then u74 else if k = 75 then u75 else if k = 12 then u12 else if k = 13 then u13 else undef) (laysAg sb vb g o R.S.L.length c5 k q0 u0 g0 p0 b0 ke se te re ve xv) (fun L g w => newA 51 wr #[.int .i64 0, .string ⟨#[]⟩, .string ⟨#[]⟩, .string ⟨#[]⟩, .string ⟨#[]⟩] #[.int .i64 ke, .string se, .string te, .string re, .string ve] (L 10) (L 11) (g 12) w) (fun w w' => True) (by kernel_rfl) (by kernel_rfl) rfl ?_ (by kernel_rfl) (newA.start _ _ _ _ _) ?_ ?_
          · exact fun _ _ _ _ _ h => h
          · refine ⟨?_, ?_, ?_, ?_, ?_, ?_, ?_, ?_, ?_, ?_, ?_, ?_, ?_, trivial⟩
            all_goals (intro L gs w1 hLi hdeps hR hC; refine ends_of fun Q hQ => ?_)
            · have HQ := fun (a' : Act) (va : Value) (w' : World) (h1 : a' = frAg q1 l.length cp1 other sb sb2 vo vr g o R.S.L.length c5 k u4 u14 u15 u64 u65 u76 u77 u78 u79 u80 u81 u82 u83 u84 u85 u86 u87 u88 u89 u90 (upd1 gs 67 va)) h2 (h3 : laysAg sb vb g o R.S.L.length c5 k q0 u0 g0 p0 b0 ke se te re ve xv 0 va w') h4 => hQ.out a' w' ⟨va, h1, h2, h3, h4⟩
              unfold frAg
              go_wp2_with fail
              exact HQ _ (.pointer (some ⟨sb, 0, none⟩)) _ (by simp only [frAg, upd1, Nat.reduceEqDiff, reduceIte]) trivial rfl hC
            · have HQ := fun (a' : Act) (va : Value) (w' : World) (h1 : a' = frAg q1 l.length cp1 other sb sb2 vo vr g o R.S.L.length c5 k u4 u14 u15 u64 u65 u76 u77 u78 u79 u80 u81 u82 u83 u84 u85 u86 u87 u88 u89 u90 (upd1 gs 68 va)) h2 (h3 : laysAg sb vb g o R.S.L.length c5 k q0 u0 g0 p0 b0 ke se te re ve xv 1 va w') h4 => hQ.out a' w' ⟨va, h1, h2, h3, h4⟩
              have r0 : gs 67 = .pointer (some ⟨sb, 0, none⟩) := hR 0 (hdeps ⟨0, .data⟩ (by simp) rfl)
              unfold frAg
              go_wp2_with fail
              refine (svault_any w1 V F sb vb _ secS _ (SX.out w1 (ext_of hC.1))).mono ?_
              rintro _ w5 ⟨rfl, rfl⟩
              go_wp2_with fail
              exact HQ _ (.pointer (some ⟨vb, 0, none⟩)) _ (by simp only [frAg, upd1, r0, Nat.reduceEqDiff, reduceIte]) trivial rfl hC
            · have HQ := fun (a' : Act) (va : Value) (w' : World) (h1 : a' = frAg q1 l.length cp1 other sb sb2 vo vr g o R.S.L.length c5 k u4 u14 u15 u64 u65 u76 u77 u78 u79 u80 u81 u82 u83 u84 u85 u86 u87 u88 u89 u90 (upd1 gs 69 va)) h2 (h3 : laysAg sb vb g o R.S.L.length c5 k q0 u0 g0 p0 b0 ke se te re ve xv 2 va w') h4 => hQ.out a' w' ⟨va, h1, h2, h3, h4⟩
              unfold frAg
              go_wp2_with fail
              exact HQ _ (.slice (some ⟨g, o, none⟩) R.S.L.length c5) _ (by simp only [frAg, upd1, Nat.reduceEqDiff, reduceIte]) trivial rfl hC
            · have HQ := fun (a' : Act) (va : Value) (w' : World) (h1 : a' = frAg q1 l.length cp1 other sb sb2 vo vr g o R.S.L.length c5 k u4 u14 u15 u64 u65 u76 u77 u78 u79 u80 u81 u82 u83 u84 u85 u86 u87 u88 u89 u90 (upd1 gs 70 va)) h2 (h3 : laysAg sb vb g o R.S.L.length c5 k q0 u0 g0 p0 b0 ke se te re ve xv 3 va w') h4 => hQ.out a' w' ⟨va, h1, h2, h3, h4⟩
              unfold frAg
              go_wp2_with fail
              exact HQ _ (.int .i64 k) _ (by simp only [frAg, upd1, Nat.reduceEqDiff, reduceIte]) trivial rfl hC
            · have HQ := fun (a' : Act) (va : Value) (w' : World) (h1 : a' = frAg q1 l.length cp1 other sb sb2 vo vr g o R.S.L.length c5 k u4 u14 u15 u64 u65 u76 u77 u78 u79 u80 u81 u82 u83 u84 u85 u86 u87 u88 u89 u90 (upd1 gs 71 va)) h2 (h3 : laysAg sb vb g o R.S.L.length c5 k q0 u0 g0 p0 b0 ke se te re ve xv 4 va w') h4 => hQ.out a' w' ⟨va, h1, h2, h3, h4⟩
              have r2 : gs 69 = .slice (some ⟨g, o, none⟩) R.S.L.length c5 := hR 2 (hdeps ⟨2, .data⟩ (by simp) rfl)
              have r3 : gs 70 = .int .i64 k := hR 3 (hdeps ⟨3, .data⟩ (by simp) rfl)
              unfold frAg
              go_wp2_with fail
              exact HQ _ (.pointer (some ⟨g, o + k * 5, none⟩)) _ (by simp only [frAg, upd1, r2, r3, Nat.reduceEqDiff, reduceIte]) trivial rfl hC
            · have HQ := fun (a' : Act) (va : Value) (w' : World) (h1 : a' = frAg q1 l.length cp1 other sb sb2 vo vr g o R.S.L.length c5 k u4 u14 u15 u64 u65 u76 u77 u78 u79 u80 u81 u82 u83 u84 u85 u86 u87 u88 u89 u90 (upd1 gs 72 va)) h2 (h3 : laysAg sb vb g o R.S.L.length c5 k q0 u0 g0 p0 b0 ke se te re ve xv 5 va w') h4 => hQ.out a' w' ⟨va, h1, h2, h3, h4⟩
              have r4 : gs 71 = .pointer (some ⟨g, o + k * 5, none⟩) := hR 4 (hdeps ⟨4, .data⟩ (by simp) rfl)
              obtain ⟨g', o', hq', e0, e1, e2, e3, e4, hg'⟩ := recsAt_row (RQ.out w1 (ext_of hC.1)) hxw
              simp only [Option.some.injEq, Addr.mk.injEq, and_true] at hq'
              obtain ⟨rfl, rfl⟩ := hq'
              dsimp only at e0 e1 e2 e3 e4
              unfold frAg
              go_wp2_with fail
              exact HQ _ (.agg #[.int .i64 q0, .string u0, .int .i64 g0, .string p0, .string b0]) _ (by simp only [frAg, upd1, r4, Nat.reduceEqDiff, reduceIte]) trivial rfl hC
            · have HQ := fun (a' : Act) (va : Value) (w' : World) (h1 : a' = frAg q1 l.length cp1 other sb sb2 vo vr g o R.S.L.length c5 k u4 u14 u15 u64 u65 u76 u77 u78 u79 u80 u81 u82 u83 u84 u85 u86 u87 u88 u89 u90 (upd1 gs 73 va)) h2 (h3 : laysAg sb vb g o R.S.L.length c5 k q0 u0 g0 p0 b0 ke se te re ve xv 6 va w') h4 => hQ.out a' w' ⟨va, h1, h2, h3, h4⟩
              have r1 : gs 68 = .pointer (some ⟨vb, 0, none⟩) := hR 1 (hdeps ⟨1, .data⟩ (by simp) rfl)
              have r5 : gs 72 = .agg #[.int .i64 q0, .string u0, .int .i64 g0, .string p0, .string b0] := hR 5 (hdeps ⟨5, .data⟩ (by simp) rfl)
              unfold frAg
              go_wp2_with fail
              refine (FO.out w1 (ext_of hC.1)).mono ?_
              rintro _ w5 ⟨rfl, hx⟩
              go_wp2_with fail
              exact HQ _ (.tuple #[.agg #[.int .i64 ke, .string se, .string te, .string re, .string ve], xv]) _ (by simp only [frAg, upd1, r1, r5, Nat.reduceEqDiff, reduceIte]) trivial rfl (newA.ext hC hx)
            · have HQ := fun (a' : Act) (va : Value) (w' : World) (h1 : a' = frAg q1 l.length cp1 other sb sb2 vo vr g o R.S.L.length c5 k u4 u14 u15 u64 u65 u76 u77 u78 u79 u80 u81 u82 u83 u84 u85 u86 u87 u88 u89 u90 (upd1 gs 66 va)) h2 (h3 : laysAg sb vb g o R.S.L.length c5 k q0 u0 g0 p0 b0 ke se te re ve xv 7 va w') h4 => hQ.out a' w' ⟨va, h1, h2, h3, h4⟩
              have r6 : gs 73 = .tuple #[.agg #[.int .i64 ke, .string se, .string te, .string re, .string ve], xv] := hR 6 (hdeps ⟨6, .data⟩ (by simp) rfl)
              unfold frAg
              go_wp2_with fail
              exact HQ _ (.tuple #[.agg #[.int .i64 ke, .string se, .string te, .string re, .string ve], xv]) _ (by simp only [frAg, upd1, r6, Nat.reduceEqDiff, reduceIte]) trivial rfl hC
            · have HQ := fun (a' : Act) (va : Value) (w' : World) (h1 : a' = frAg q1 l.length cp1 other sb sb2 vo vr g o R.S.L.length c5 k u4 u14 u15 u64 u65 u76 u77 u78 u79 u80 u81 u82 u83 u84 u85 u86 u87 u88 u89 u90 (upd1 gs 74 va)) h2 (h3 : laysAg sb vb g o R.S.L.length c5 k q0 u0 g0 p0 b0 ke se te re ve xv 8 va w') h4 => hQ.out a' w' ⟨va, h1, h2, h3, h4⟩
              have r7 : gs 66 = .tuple #[.agg #[.int .i64 ke, .string se, .string te, .string re, .string ve], xv] := hR 7 (hdeps ⟨7, .data⟩ (by simp) rfl)
              unfold frAg
              go_wp2_with fail
              exact HQ _ (.agg #[.int .i64 ke, .string se, .string te, .string re, .string ve]) _ (by simp only [frAg, upd1, r7, Nat.reduceEqDiff, reduceIte]) trivial rfl hC
            · have HQ := fun (a' : Act) (va : Value) (w' : World) (h1 : a' = frAg q1 l.length cp1 other sb sb2 vo vr g o R.S.L.length c5 k u4 u14 u15 u64 u65 u76 u77 u78 u79 u80 u81 u82 u83 u84 u85 u86 u87 u88 u89 u90 (upd1 gs 75 va)) h2 (h3 : laysAg sb vb g o R.S.L.length c5 k q0 u0 g0 p0 b0 ke se te re ve xv 9 va w') h4 => hQ.out a' w' ⟨va, h1, h2, h3, h4⟩
              have r7 : gs 66 = .tuple #[.agg #[.int .i64 ke, .string se, .string te, .string re, .string ve], xv] := hR 7 (hdeps ⟨7, .data⟩ (by simp) rfl)
              unfold frAg
              go_wp2_with fail
              exact HQ _ (xv) _ (by simp only [frAg, upd1, r7, Nat.reduceEqDiff, reduceIte]) trivial rfl hC
            · have HQ := fun (a' : Act) (va : Value) (w' : World) (h1 : a' = frAg q1 l.length cp1 other sb sb2 vo vr g o R.S.L.length c5 k u4 u14 u15 u64 u65 u76 u77 u78 u79 u80 u81 u82 u83 u84 u85 u86 u87 u88 u89 u90 (upd1 gs 12 va)) h2 (h3 : laysAg sb vb g o R.S.L.length c5 k q0 u0 g0 p0 b0 ke se te re ve xv 10 va w') h4 => hQ.out a' w' ⟨va, h1, h2, h3, h4⟩
              unfold frAg
              go_wp2_with fail
              exact HQ _ (.pointer (some ⟨w1.heap.size, 0, none⟩)) _ (by simp only [frAg, upd1, Nat.reduceEqDiff, reduceIte]) trivial ⟨_, rfl⟩ (newA.made hC hLi)
            · have HQ := fun (a' : Act) (va : Value) (w' : World) (h1 : a' = frAg q1 l.length cp1 other sb sb2 vo vr g o R.S.L.length c5 k u4 u14 u15 u64 u65 u76 u77 u78 u79 u80 u81 u82 u83 u84 u85 u86 u87 u88 u89 u90 (upd1 gs 1011 va)) h2 (h3 : laysAg sb vb g o R.S.L.length c5 k q0 u0 g0 p0 b0 ke se te re ve xv 11 va w') h4 => hQ.out a' w' ⟨va, h1, h2, h3, h4⟩
              have r8 : gs 74 = .agg #[.int .i64 ke, .string se, .string te, .string re, .string ve] := hR 8 (hdeps ⟨8, .data⟩ (by simp) rfl)
              have r10 := hR 10 (hdeps ⟨10, .data⟩ (by simp) rfl)
              obtain ⟨p, hp⟩ := r10
              change gs 12 = _ at hp
              have l10 : L 10 = true := hdeps ⟨10, .data⟩ (by simp) rfl
              obtain ⟨p', hp', hpl, hpb⟩ := hC.2.2 l10
              rw [hp] at hp'
              injection hp' with hp'
              injection hp' with hp'
              injection hp' with hp'
              subst hp'
              rw [show L 11 = false from hLi] at hpb
              have hpb : w1.heap[p]? = some (.cells #[.int .i64 0, .string ⟨#[]⟩, .string ⟨#[]⟩, .string ⟨#[]⟩, .string ⟨#[]⟩] 51 (0, 0)) := hpb
              have lw1 := lt_of_heap hpb
              have ff := free_of_heap hpb
              have HH := Lib.hid (setEvAt hpb (.int .i64 ke) (.string se) (.string te) (.string re) (.string ve))
              obtain ⟨y0, y1, y2, y3, y4⟩ := ev_cells hpb
              clear hpb
              unfold frAg
              go_wp2_with fail
              exact HQ _ undef _ (by simp only [frAg, upd1, r8, hp, Nat.reduceEqDiff, reduceIte]) trivial trivial (newA.put hC l10 hp HH.out.1 HH.out.2)
            · have HQ := fun (a' : Act) (va : Value) (w' : World) (h1 : a' = frAg q1 l.length cp1 other sb sb2 vo vr g o R.S.L.length c5 k u4 u14 u15 u64 u65 u76 u77 u78 u79 u80 u81 u82 u83 u84 u85 u86 u87 u88 u89 u90 (upd1 gs 13 va)) h2 (h3 : laysAg sb vb g o R.S.L.length c5 k q0 u0 g0 p0 b0 ke se te re ve xv 12 va w') h4 => hQ.out a' w' ⟨va, h1, h2, h3, h4⟩
              have r9 : gs 75 = xv := hR 9 (hdeps ⟨9, .data⟩ (by simp) rfl)
              unfold frAg
              go_wp2_with fail
              exact HQ _ (xv) _ (by simp only [frAg, upd1, r9, Nat.reduceEqDiff, reduceIte]) trivial rfl hC
          intro L13 g13 w13 hall hR hC
          obtain ⟨p12, hp12, hpl, hpb⟩ := hC.2.2 (hall 10 (by decide))
          rw [hall 11 (by decide), if_pos rfl] at hpb
          have EB := Lib.hid hpb
          have s13 : g13 13 = xv := hR 12 (by decide)
          have A13 := Lib.hid (AG.out.ext (ext_of hC.1))
          clear hC hall hR hpb hpl AG RQ SX FO
          unfold frAg
          rw [hp12, s13]
          clear hp12 s13
          have ly := lt_of_heap EB.out
          obtain ⟨y0, y1, y2, y3, y4⟩ := ev_cells EB.out
          cases hlo : lostR R.S.many R.S.has ⟨q0, u0, g0, p0, b0⟩ with
          | true =>
            obtain rfl : errV 8 = xv := by have := HXV.out; rw [hlo, if_pos rfl] at this; exact this
            have NK := Lib.hid (NX.out.1 hlo)
            clear NX TO HEE HXV
            unfold errV
            go_wp2_with fail
            go_roundw
            case rel => exact ⟨k + 1, F2, hlt, by go_num, Lib.hid (by rw [NK.out]; exact A13.out.mono (by omega))⟩
            case measure => simp [intOf]; omega
          | false =>
            obtain rfl : Value.nilIface = xv := by have := HXV.out; rw [hlo, if_neg (by simp)] at this; exact this
            have hee := HEE.out
            rw [hlo, if_neg (by simp)] at hee
            injection hee with h1 h2 h3 h4 h5
            subst h1 h2 h3 h4 h5
            clear HEE HXV
            by_cases hk3 : k0 = 3
            · have hk3b : (k0 == 3) = true := by simp [hk3]
              have NK := Lib.hid (NX.out.2.1 hk3)
              clear NX TO hk3
              go_wp2_with fail
              go_roundw
              case rel => exact ⟨k + 1, F2, hlt, by go_num, Lib.hid (by rw [NK.out]; exact A13.out.mono (by omega))⟩
              case measure => simp [intOf]; omega
            · have hk3b : (k0 == 3) = false := by simp [hk3]
              obtain ⟨n1, n2⟩ := NX.out.2.2 hlo hk3
              have NK := Lib.hid n1
              have IV := inv_run other (keptE R.ok k)
              have KL := ok_len other (keptE R.ok k)
              have KK := keptE_len R.ok k
              have hri := TO.out.1.right
              have hps := print_short hri
              have hpz := print_sizes hri
              dsimp only at hps hpz
              have CN := IV.cnt s0
              have CL := IV.len
              have DO := sdo_any ⟨k0, s0, t0, r0, v0⟩ w13 V2 F2 sb2 vb2 (3 * k) other (runM other (keptE R.ok k)).S A13.out.src ((GG.out.ext X3.out).step A13.out.st) ⟨by dsimp only; omega, by dsimp only; omega, by dsimp only; omega⟩ (by dsimp only; omega) hsz (by omega) (by dsimp only; omega) (by omega)
              unfold DoPost at DO
              rw [n2, if_pos rfl, if_pos rfl] at DO
              have HS := Lib.hid (show doS other (runM other (keptE R.ok k)).S ⟨k0, s0, t0, r0, v0⟩ = (runM other (keptE R.ok (k + 1))).S from by rw [n1, runM_snoc, run1_yes n2])
              rw [HS.out] at DO
              generalize toldR other (runM other (keptE R.ok k)).S.many (runM other (keptE R.ok k)).S.has (runM other (keptE R.ok k)).S.L ⟨k0, s0, t0, r0, v0⟩ = rr at DO
              obtain ⟨q9, u9, g9, p9, b9⟩ := rr
              unfold evV recV at DO
              dsimp only at DO
              clear n1 n2 IV KL KK hri hps hpz CN CL NX TO NK hk3
              go_wp2_with fail
              refine DO.mono ?_
              rintro _ w14 ⟨rfl, F', hs7, hst7⟩
              have A14 := Lib.hid ((A13.out.turn hs7 hst7).ext (ext_alloc (.cells #[.int .i64 q9, .string u9, .int .i64 g9, .string p9, .string b9] 55) (ext_refl w14)))
              clear hs7 hst7 DO A13 EB y0 y1 y2 y3 y4 ly
              go_wp2_with fail
              go_roundw
              case rel => exact ⟨k + 1, F', hlt, by go_num, Lib.hid (A14.out.mono (by omega))⟩
              case measure => simp [intOf]; omega
        · obtain rfl : k = R.S.L.length := by omega
          have TT : (runM other (keptE R.ok R.S.L.length)).S.T = R.S.T := by rw [HLE.out]; exact again_all HRU.out other
          have TLL : R.S.T.length ≤ 1000 := by rw [HRU.out.tab]; have := tabN_len R.ok R.ok.length; have := OKL.out; omega
          have XW := Lib.hid AG.out.st.ext
          have RC := scells_any wr V2 F2 sb2 vb2 _ other _ AG.out.src (by omega)
          rw [TT] at RC
          clear TT
          go_wp2_with fail
          refine RC.mono ?_
          rintro _ wd ⟨vd, rfl, hod, _, hbd⟩
          have OD := Lib.hid hod
          have XD := Lib.hid (ext_trans XW.out (ext_of hbd))
          have SD := Lib.hid (D3.out.src.ext XD.out)
          clear RC hod hbd AG
          go_wp2_with fail
          refine (scells_any wd V F sb vb _ secS _ SD.out (by omega)).mono ?_
          rintro _ we ⟨ve, rfl, hoe, _, hbe⟩
          have OE := Lib.hid hoe
          have OD2 := Lib.hid (OD.out.kept (grown_below hbe none) (by simp))
          have XE := Lib.hid (ext_trans XD.out (ext_of hbe))
          clear hoe hbe OD XD SD
          obtain ⟨qd, cd, rfl⟩ := rows_shape OD2.out
          obtain ⟨qe, ce, rfl⟩ := rows_shape OE.out
          have EQ := eqC_any qd qe cd ce _ _ we (by rw [sortC_len]; omega) (by rw [sortC_len]; omega) (cellsIn_of OD2.out).1 (cellsIn_of OE.out).1
          rw [(allEq_cells _ _).2 rfl] at EQ
          go_wp2_with fail
          refine EQ.mono ?_
          rintro _ wf ⟨rfl, hxf⟩
          have XF := Lib.hid (ext_trans XE.out hxf)
          clear EQ hxf
          go_wp2_with fail
          go_ret
          exact ⟨rfl, ext_trans X3.out XF.out⟩
    · have SN := snew_bad other w3 h16
      have h16' : ((other.size : Int) != 16) = true := by simp; omega
      go_wp2_with fail
      refine SN.mono ?_
      rintro _ w4 ⟨rfl, rfl⟩
      go_wp2_with fail
      go_ret
      exact ⟨rfl, X3.out⟩
theorem sourceAgain_law (q1 : Option Addr) (cp1 : Nat) (l : List Ev) (other : ByteArray) (w : World) (hG : Glob w none0) (hl : l.length ≤ 9223372036854775807) (_ : l.length ≤ cp1) (h1 : evsAt w q1 l) (_ : q1 = none → l.length = 0 ∧ cp1 = 0) :
    Calls Tryz.prog 4 #[.slice q1 l.length cp1, .string other] w (Res true w) := sourceAgain_any q1 cp1 l other w hl h1 hG
end Go.Proofs.YtgckpfeeioljeaaGreatDoor
