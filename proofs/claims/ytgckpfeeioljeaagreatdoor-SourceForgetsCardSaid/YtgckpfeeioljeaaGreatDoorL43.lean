/- oubliettekeep.SourceForgets (the walk). · What the rows' condition says of the package-level variables, in the walks' words. · Arguments as data: slices of texts, bytes, in the walks' words. -/
import Derived.Test.YtgckpfeeioljeaaGreatDoorProg
import Derived.Test.YtgckpfeeioljeaaGreatDoorL41
import Derived.Test.YtgckpfeeioljeaaGreatDoorG31
import Derived.Test.YtgckpfeeioljeaaGreatDoorH28
import Derived.Test.YtgckpfeeioljeaaGreatDoorG43
import Derived.Test.YtgckpfeeioljeaaGreatDoorRows
import Derived.Test.YtgckpfeeioljeaaGreatDoorG10
import Derived.Lib.LaidTab
import Derived.Stop.LaidErr
import Derived.LaidMore
import Derived.MakeChecks
import Derived.Test.YtgckpfeeioljeaaGreatDoorG18
import Derived.LaidHandle
import Derived.Test.YtgckpfeeioljeaaGreatDoorG11
import Derived.SliceStrings
import Derived.Carry
import Derived.ProofKit
namespace Go.Proofs.YtgckpfeeioljeaaGreatDoor
open Go.RowKit Go.Shelf

/-- The last of a subject's events so far. -/
def lastAt (s : ByteArray) (ok : List Ev) (i : Nat) (z : Int) : Prop := (z = -1 ∧ lastK s (ok.take i) = none) ∨ ∃ n e, z = (n : Nat) ∧ n < i ∧ ok[n]? = some e ∧ lastK s (ok.take i) = some e.kind
theorem lastAt.next {s : ByteArray} {ok : List Ev} {i : Nat} {z : Int} (h : lastAt s ok i z) {e : Ev} (he : ok[i]? = some e) : (txt e.subject = txt s → lastAt s ok (i + 1) i) ∧ (txt e.subject ≠ txt s → lastAt s ok (i + 1) z) := by
  have hl : lastK s (ok.take (i + 1)) = if txt e.subject = txt s then some e.kind else lastK s (ok.take i) := by rw [List.take_add_one, he, Option.toList_some, lastK_snoc]
  refine ⟨fun hs => .inr ⟨i, e, rfl, Nat.lt_succ_self i, he, by rw [hl, if_pos hs]⟩, fun hs => ?_⟩
  rw [if_neg hs] at hl
  rcases h with ⟨h1, h2⟩ | ⟨n, x, h1, h2, h3, h4⟩
  · exact .inl ⟨h1, by rw [hl]; exact h2⟩
  · exact .inr ⟨n, x, h1, by omega, h3, by rw [hl]; exact h4⟩
theorem ownsEl_c {w : World} {base n c : Nat} {q : Option Addr} {l : List Ev} (h : ownsEl w base (.slice q n c) l) : n ≤ c ∧ n = l.length := by
  obtain ⟨_, ⟨h1, h2⟩ | ⟨g, cap', cur, h1, _, _, h2, _⟩⟩ := h
  · injection h1 with _ h1 h3; subst h1 h3; exact ⟨Nat.le_refl _, h2.symm⟩
  · injection h1 with _ h1 h3; subst h1 h3; exact ⟨h2, rfl⟩
def frSf (q1 : Option Addr) (ll : Nat) (cp1 : Nat) (s : ByteArray) (ns : Nat) (jb : Nat) (sb : Nat) (qo : Option Addr) (nO : Nat) (co : Nat) (gr : Nat) (cr : Nat) (rcb : Nat) (had : Bool) (q6 : Option Addr) (nL : Nat) (c6 : Nat) (y0 : Int) (y1 : ByteArray) (y2 : Int) (y3 : ByteArray) (y4 : ByteArray) (g : Nat → Value) : Act := { tmps := #[.slice q1 ll cp1, .string s, undef, .pointer (some ⟨jb, 0, none⟩), .bool false, .pointer (some ⟨sb, 0, none⟩), .slice qo nO co, .slice (some ⟨gr, 0, none⟩) (nO + 1) cr, .pointer (some ⟨rcb, 0, none⟩), .nilIface, .bool had, undef, undef, .slice q6 nL c6, .func (Fn.func 32) #[] #[.pointer (some ⟨jb, 0, none⟩)], undef, undef, undef, undef, .slice q1 ll cp1, .bool true, .bool false, .bool false, .string s, .int .i64 ns, .bool false, .bool false, .bool true, .bool false, .bool false, .bool true, .bool false, .bool false, .tuple #[.pointer (some ⟨sb, 0, none⟩), .slice qo nO co, .slice (some ⟨gr, 0, none⟩) (nO + 1) cr], .slice q1 ll cp1, .tuple #[.pointer (some ⟨sb, 0, none⟩), .slice qo nO co, .slice (some ⟨gr, 0, none⟩) (nO + 1) cr], .pointer (some ⟨sb, 0, none⟩), .slice qo nO co, .slice (some ⟨gr, 0, none⟩) (nO + 1) cr, .pointer (some ⟨sb, 0, none⟩), .bool false, .tuple #[.agg #[.int .i64 y0, .string y1, .int .i64 y2, .string y3, .string y4], .nilIface], .pointer (some ⟨sb, 0, none⟩), .string s, .agg #[.int .i64 3, .string s, .string ⟨#[]⟩, .string ⟨#[]⟩, .string ⟨#[]⟩], .tuple #[.agg #[.int .i64 y0, .string y1, .int .i64 y2, .string y3, .string y4], .nilIface], .agg #[.int .i64 y0, .string y1, .int .i64 y2, .string y3, .string y4], .nilIface, .slice qo nO co, .func (Fn.func 31) #[] #[.pointer (some ⟨jb, 0, none⟩)], .bool had, .nilIface, .bool false, undef, undef, undef, undef, undef, undef, undef, undef, undef, undef, undef, undef, undef, undef, undef, undef, undef, undef, undef, undef, undef, undef, undef, undef, .pointer (some ⟨sb, 0, none⟩), .slice q6 nL c6, .func (Fn.func 32) #[] #[.pointer (some ⟨jb, 0, none⟩)], g 80, g 81, g 82, g 83, g 84, g 85, g 86, g 87, g 88, g 89, g 90, g 91, g 92, g 93, g 94, g 95, g 96, g 97, g 98, g 99, undef, undef, undef, undef, undef, undef, undef, undef, undef, undef, undef, undef, undef, undef, undef, undef, undef, undef, undef, undef, undef, undef, undef, undef, undef, undef, undef, undef, undef, undef, undef, undef, undef, undef, undef, undef, undef, undef, undef, undef, undef, undef, undef, undef, undef, undef, undef, undef, undef, undef, undef, undef, undef, undef, undef, undef, undef, undef, undef, undef, undef, undef], defers := [] }
def dstSf (i : Nat) : Nat := ([80, 81, 82, 83, 84, 85, 86, 87, 88, 89, 90, 91, 92, 93, 94, 95, 96, 97, 98, 99] : List Nat).getD i (2000 + i)
def laysSf (s : ByteArray) (jb : Nat) (sb : Nat) (vb : Nat) (nO : Nat) (gr : Nat) (cr : Nat) (qu : Option Addr) (nT : Nat) (cu : Nat) (nA : Nat) (nD : Nat) (j : Nat) (v : Value) (_ : World) : Prop :=
  match j with
  | 0 => v = .pointer (some ⟨sb, 0, none⟩)
  | 1 => ∃ q c, v = .slice q nA c
  | 2 => v = .slice (some ⟨gr, 0, none⟩) (nO + 1) cr
  | 3 => v = .slice (some ⟨gr, 0, none⟩) (nO + 1) cr
  | 4 => v = .int .i64 (nO + 1)
  | 5 => v = .int .i64 nO
  | 6 => v = .pointer (some ⟨gr, nO, none⟩)
  | 7 => v = .slice qu nT cu
  | 8 => ∃ q c, v = .slice q nT c
  | 9 => v = .func (.func 32) #[] #[.pointer (some ⟨jb, 0, none⟩)]
  | 10 => ∃ q c, v = .slice q nD c
  | 11 => v = .bool true
  | 12 => v = .bool false
  | 13 => v = .bool false
  | 14 => v = .pointer (some ⟨sb, 0, none⟩)
  | 15 => v = .pointer (some ⟨vb, 0, none⟩)
  | 16 => ∃ q c n, v = .slice q n c
  | 17 => v = .string s
  | 18 => v = .bool false
  | 19 => v = .bool false
  | _ => True
def frSg (q1 : Option Addr) (ll : Nat) (cp1 : Nat) (s : ByteArray) (ns : Nat) (jb : Nat) (sb : Nat) (qo : Option Addr) (nO : Nat) (co : Nat) (gr : Nat) (cr : Nat) (rcb : Nat) (had : Bool) (nL : Nat) (c6 : Nat) (y0 : Int) (y1 : ByteArray) (y2 : Int) (y3 : ByteArray) (y4 : ByteArray) (g20 : Nat → Value) (gq : Nat) (o : Nat) (k : Nat) (u4 : Value) (u104 : Value) (u105 : Value) (u116 : Value) (u117 : Value) (u118 : Value) (u119 : Value) (u120 : Value) (u121 : Value) (u122 : Value) (u123 : Value) (u124 : Value) (u125 : Value) (u126 : Value) (u127 : Value) (u128 : Value) (u129 : Value) (u130 : Value) (u131 : Value) (u132 : Value) (u133 : Value) (u134 : Value) (u135 : Value) (u136 : Value) (u137 : Value) (u138 : Value) (u139 : Value) (u140 : Value) (u141 : Value) (u142 : Value) (u143 : Value) (u144 : Value) (u145 : Value) (g : Nat → Value) : Act := { tmps := #[.slice q1 ll cp1, .string s, undef, .pointer (some ⟨jb, 0, none⟩), u4, .pointer (some ⟨sb, 0, none⟩), .slice qo nO co, .slice (some ⟨gr, 0, none⟩) (nO + 1) cr, .pointer (some ⟨rcb, 0, none⟩), .nilIface, .bool had, undef, undef, .slice (some ⟨gq, o, none⟩) nL c6, .func (Fn.func 32) #[] #[.pointer (some ⟨jb, 0, none⟩)], .int .i64 k, g 16, g 17, undef, .slice q1 ll cp1, .bool true, .bool false, .bool false, .string s, .int .i64 ns, .bool false, .bool false, .bool true, .bool false, .bool false, .bool true, .bool false, .bool false, .tuple #[.pointer (some ⟨sb, 0, none⟩), .slice qo nO co, .slice (some ⟨gr, 0, none⟩) (nO + 1) cr], .slice q1 ll cp1, .tuple #[.pointer (some ⟨sb, 0, none⟩), .slice qo nO co, .slice (some ⟨gr, 0, none⟩) (nO + 1) cr], .pointer (some ⟨sb, 0, none⟩), .slice qo nO co, .slice (some ⟨gr, 0, none⟩) (nO + 1) cr, .pointer (some ⟨sb, 0, none⟩), .bool false, .tuple #[.agg #[.int .i64 y0, .string y1, .int .i64 y2, .string y3, .string y4], .nilIface], .pointer (some ⟨sb, 0, none⟩), .string s, .agg #[.int .i64 3, .string s, .string ⟨#[]⟩, .string ⟨#[]⟩, .string ⟨#[]⟩], .tuple #[.agg #[.int .i64 y0, .string y1, .int .i64 y2, .string y3, .string y4], .nilIface], .agg #[.int .i64 y0, .string y1, .int .i64 y2, .string y3, .string y4], .nilIface, .slice qo nO co, .func (Fn.func 31) #[] #[.pointer (some ⟨jb, 0, none⟩)], .bool had, .nilIface, .bool false, undef, undef, undef, undef, undef, undef, undef, undef, undef, undef, undef, undef, undef, undef, undef, undef, undef, undef, undef, undef, undef, undef, undef, undef, .pointer (some ⟨sb, 0, none⟩), .slice (some ⟨gq, o, none⟩) nL c6, .func (Fn.func 32) #[] #[.pointer (some ⟨jb, 0, none⟩)], g20 80, g20 81, g20 82, g20 83, g20 84, g20 85, g20 86, g20 87, g20 88, g20 89, g20 90, g20 91, g20 92, g20 93, g20 94, g20 95, g20 96, g20 97, g20 98, .bool false, .int .i64 k, .slice qo nO co, .int .i64 nO, .bool true, u104, u105, g 106, g 107, g 108, g 109, g 110, g 111, g 112, g 113, g 114, g 115, u116, u117, u118, u119, u120, u121, u122, u123, u124, u125, u126, u127, u128, u129, u130, u131, u132, u133, u134, u135, u136, u137, u138, u139, u140, u141, u142, u143, u144, u145, undef, undef, undef, undef, undef, undef, undef, undef, undef, undef, undef, undef, undef, undef, undef, undef], defers := [] }
def dstSg (i : Nat) : Nat := ([107, 108, 109, 110, 111, 112, 113, 106, 114, 115, 16, 1011, 17] : List Nat).getD i (2000 + i)
def laysSg (sb : Nat) (vb : Nat) (nL : Nat) (c6 : Nat) (gq : Nat) (o : Nat) (k : Nat) (q0 : Int) (u0 : ByteArray) (g0 : Int) (p0 : ByteArray) (b0 : ByteArray) (ke : Int) (se : ByteArray) (te : ByteArray) (re : ByteArray) (ve : ByteArray) (xv : Value) (j : Nat) (v : Value) (_ : World) : Prop :=
  match j with
  | 0 => v = .pointer (some ⟨sb, 0, none⟩)
  | 1 => v = .pointer (some ⟨vb, 0, none⟩)
  | 2 => v = .slice (some ⟨gq, o, none⟩) nL c6
  | 3 => v = .int .i64 k
  | 4 => v = .pointer (some ⟨gq, o + k * 5, none⟩)
  | 5 => v = .agg #[.int .i64 q0, .string u0, .int .i64 g0, .string p0, .string b0]
  | 6 => v = .tuple #[.agg #[.int .i64 ke, .string se, .string te, .string re, .string ve], xv]
  | 7 => v = .tuple #[.agg #[.int .i64 ke, .string se, .string te, .string re, .string ve], xv]
  | 8 => v = .agg #[.int .i64 ke, .string se, .string te, .string re, .string ve]
  | 9 => v = xv
  | 10 => ∃ p, v = .pointer (some ⟨p, 0, none⟩)
  | 12 => v = xv
  | _ => True
set_option maxRecDepth 100000 in
set_option maxHeartbeats 8000000 in
theorem sourceForgets_any (q1 : Option Addr) (cp1 : Nat) (l : List Ev) (s : ByteArray) (w : World) (hl : l.length ≤ 9223372036854775807) (h1 : evsAt w q1 l) (hG : Glob w none0) :
    Calls Tryz.prog 7 #[.slice q1 l.length cp1, .string s] w (Res true w) := by
  have XJ := ext_alloc (.cells #[.string s] 9) (ext_refl w)
  have JB := Lib.hid (heap_alloc_at w (.cells #[.string s] 9))
  have X0 := Lib.hid XJ
  have E1 := Lib.hid (h1.at (ext_iff.1 XJ) (Nat.le_refl _))
  have F1 := few_any q1 cp1 l _ hl E1.out
  have S1 := Lib.hid (fun h : fewB l = true => few_sizes h)
  have GG := Lib.hid (hG.ext XJ)
  clear h1 hG XJ
  go_enter Tryz.func7, Tryz.ntmps7
  go_wp2_with fail
  generalize w.alloc (.cells #[.string s] 9) = w0 at JB X0 E1 F1 GG ⊢
  generalize w.heap.size = jb at JB ⊢
  refine F1.mono ?_
  rintro _ w1 ⟨rfl, hx⟩
  have X1 := Lib.hid hx
  have J1 := ((ext_iff.1 hx).block _ (lt_of_heap JB.out)).trans JB.out
  have jc1 := cell1' J1
  have jl1 := lt_of_heap J1
  clear hx F1 J1
  generalize fewB l = few1 at S1
  cases few1 with
  | false =>
    go_wp2_with fail
    go_ret
    exact ⟨rfl, ext_trans X0.out X1.out⟩
  | true =>
  by_cases h40 : 40 < s.size
  · have hd : decide ((s.size : Int) > 40) = true := decide_eq_true (by omega)
    go_wp2_with fail
    go_ret
    exact ⟨rfl, ext_trans X0.out X1.out⟩
  · have hd : decide ((s.size : Int) > 40) = false := decide_eq_false (by omega)
    obtain ⟨hl30, hls⟩ := S1.out (by trivial)
    have HLS := Lib.hid hls
    clear S1 hls
    go_wp2_with fail
    refine (fed_any w1 (GG.out.ext X1.out)).mono ?_
    rintro _ w1' ⟨rfl, hx⟩
    have X1' := Lib.hid (ext_trans X1.out hx)
    clear hx X1 jc1 jl1 hd
    go_wp2_with fail
    refine (applied_any w1').mono ?_
    rintro _ w2 ⟨rfl, hx⟩
    have X2 := Lib.hid (ext_trans X1'.out hx)
    clear hx X1'
    have B2 := Lib.hid (ext_iff.1 X2.out)
    have DN := done_any q1 cp1 l w2 (by omega) HLS.out (E1.out.at B2.out (Nat.le_refl _)) (GG.out.ext X2.out)
    go_wp2_with fail
    refine DN.mono ?_
    rintro _ w3 ⟨sb, vb, V, F, A, vo, vr, vs, rfl, hd3⟩
    have D3 := Lib.hid hd3
    have HRU := Lib.hid (runs secS l)
    have OKL := Lib.hid (show (runM secS l).ok.length ≤ 30 from by have := ok_len secS l; omega)
    have RFU := Lib.hid (fun h => refused (sec := secS) (l := l) (s := s) h)
    have ML := run_many_le l l.length s
    rw [List.take_length] at ML
    clear hd3 DN B2
    generalize runM secS l = R at D3 HRU OKL RFU ML
    have HML := Lib.hid ML
    clear ML
    have HLE := Lib.hid HRU.out.inv.len
    obtain ⟨qo, co, rfl⟩ := ownsEl_shape D3.out.oks
    obtain ⟨qr, cr, rfl⟩ := ownsSl_shape D3.out.rws
    have SF := Lib.hid (D3.out.st.more (F' := F) (fun i hi => .inl (D3.out.sub i hi)))
    have DO := sdo_any (goneE s) w3 V F sb vb _ secS R.S D3.out.src ((GG.out.ext X2.out).step SF.out) ⟨by show s.size ≤ _; omega, by show 0 ≤ _; omega, by show 0 ≤ _; omega⟩ (by show 0 ≤ _; omega) (by decide) (by omega) (by have := HML.out.1; show R.S.many s < _; omega) (by have := HML.out.2; omega)
    have J3 := ((ext_iff.1 (ext_trans X2.out D3.out.st.ext)).block _ (lt_of_heap JB.out)).trans JB.out
    have jc3 := cell1' J3
    have jl3 := lt_of_heap J3
    unfold DoPost goneE at DO
    unfold evV at DO
    dsimp only at DO
    change Calls _ _ _ _ (fun r w' => r = Ending.returned (.tuple #[.agg (recV (if doX R.S (goneE s) = 0 then toldR secS R.S.many R.S.has R.S.L (goneE s) else zeroR)), if doX R.S (goneE s) = 0 then Value.nilIface else errV (doX R.S (goneE s))]) ∧ ∃ F', srcIn w' V F' sb vb _ secS (doS secS R.S (goneE s)) ∧ step w3 w' F F') at DO
    generalize hrr : (if doX R.S (goneE s) = 0 then toldR secS R.S.many R.S.has R.S.L (goneE s) else zeroR) = rr at DO
    obtain ⟨y0, y1, y2, y3, y4⟩ := rr
    clear hrr
    unfold recV at DO
    dsimp only at DO
    have KA := Lib.hid (fun w' (hw : ∃ z, w' = ext w3 z) => hw)
    clear J3 KA
    by_cases hX : doX R.S (goneE s) = 0
    · rw [if_pos hX] at DO
      go_wp2_with fail
      refine DO.mono ?_
      rintro _ w4 ⟨rfl, F', hs4, hst4⟩
      have D4 := Lib.hid ((D3.out.turn hs4 hst4).ext (ext_alloc (.cells #[.int .i64 y0, .string y1, .int .i64 y2, .string y3, .string y4] 55) (ext_refl w4)))
      clear hs4 hst4 DO D3 SF jc3 jl3
      have X4 := Lib.hid (ext_trans X2.out D4.out.st.ext)
      have J4 := Lib.hid (((ext_iff.1 X4.out).block _ (lt_of_heap JB.out)).trans JB.out)
      have CE := sfE_any qo co R.ok s jb _ J4.out (evsAt_owned D4.out.oks) (by have := OKL.out; omega)
      generalize (R.ok.any fun e => decide (txt e.subject = txt s)) = had at CE
      go_wp2_with fail
      refine CE.mono ?_
      rintro _ w5 ⟨rfl, hx5⟩
      have D5 := Lib.hid (D4.out.ext hx5)
      clear CE hx5 D4 X4 J4
      go_wp2_with fail
      have HR2 := Lib.hid (HRU.out.step (goneE s))
      have GD := Lib.hid (goneE_does (sec := secS) hX)
      have GL := Lib.hid (fun i r e hr he => gone_lost (sec := secS) HRU.out (s := s) hX (i := i) (r := r) (e := e) hr he)
      have HS2 := Lib.hid (show (run1 secS R (goneE s)).S = doS secS R.S (goneE s) from by rw [GD.out.2.2.2])
      have HL2 := Lib.hid (show (doS secS R.S (goneE s)).L.length = R.ok.length + 1 from by rw [← HS2.out, HR2.out.inv.len, GD.out.2.2.2]; simp)
      refine (sfeed_any w5 V F' sb vb _ secS _ D5.out.src).mono ?_
      rintro _ w6 ⟨v6, rfl, ho6, hb6⟩
      obtain ⟨q6, c6, rfl⟩ := ownsRl_shape ho6
      have RA := Lib.hid (recsAt_owned ho6)
      have OFF6 := Lib.hid (show ∀ a, q6 = some a → ¬ F' a.block ∧ a.block < w6.heap.size from fun a ha => by
        have h1 := ho6.base (g := a.block) (by rw [ha]; rfl)
        exact ⟨fun h => by have := D5.out.src.lt _ h; omega, h1.2⟩)
      have D6 := Lib.hid (D5.out.ext (ext_of hb6))
      clear ho6 hb6 D5
      have X6 := Lib.hid (ext_trans X2.out D6.out.st.ext)
      have J6 := Lib.hid (((ext_iff.1 X6.out).block _ (lt_of_heap JB.out)).trans JB.out)
      have hvl : vs.length = R.ok.length + 1 := by
        have h1 := D6.out.held.1
        rw [h1]
        show R.rows.length = _
        rw [HRU.out.rows, List.length_map, List.length_range]
      have RH := Lib.hid (show ∃ gr qu cu, qr = some ⟨gr, 0, none⟩ ∧ gr < w6.heap.size ∧ w6.cell? ⟨gr, R.ok.length, none⟩ = some (.slice qu (sortC R.S.T).length cu) ∧ (∀ wx, (∃ z, wx = ext w6 z) → cellsIn wx qu (sortC R.S.T)) from by
        have hu := List.getElem?_eq_getElem (show R.ok.length < vs.length by omega)
        have hr : (⟨doS secS R.S (goneE s), R.ok, R.rows⟩ : RunM).rows[R.ok.length]? = some (sortC R.S.T) := by
          show R.rows[R.ok.length]? = _
          rw [HRU.out.rows, List.getElem?_map, List.getElem?_range (by omega), HRU.out.tab]; rfl
        have hh := D6.out.held.2 _ _ _ hu hr
        obtain ⟨gr, e1, e2, e3⟩ := ownsSl_cell D6.out.rws hu
        obtain ⟨qu, cu, e4, _, _⟩ := hh
        refine ⟨gr, qu, cu, e1, e2, by rw [e3, e4], fun wx hx => ?_⟩
        obtain ⟨q', c', e5, e6, _⟩ := (D6.out.held.2 _ _ _ hu hr).step (step.of_ext _ hx)
        rw [e4] at e5
        injection e5 with e5 _ _
        rw [e5]; exact e6)
      obtain ⟨gr, qu, cu, rfl, hgr, hcu, hci⟩ := RH.out
      have CU := Lib.hid hcu
      have CI := Lib.hid hci
      have HGR := Lib.hid hgr
      have hok30 : R.ok.length ≤ 30 := OKL.out
      clear RH hcu hci hgr
      have HVL := Lib.hid hvl
      go_wp2_with fail
      clear hvl
      have TLR := Lib.hid (show R.S.T.length ≤ 60 from by rw [HRU.out.tab]; exact Nat.le_trans (tabN_len _ _) (by omega))
      have EQL := Lib.hid (show sortC (doS secS R.S (goneE s)).T = (sortC R.S.T).filter fun c => !decide (txt c.subject = txt s) from by rw [GD.out.2.1]; exact goneT_sort HRU.out.inv.once s)
      have FLN := Lib.hid (show ((sortC R.S.T).filter fun c => !decide (txt c.subject = txt s)).length ≤ 60 from by
        have h1 := List.length_filter_le (fun c : Cell => !decide (txt c.subject = txt s)) (sortC R.S.T)
        rw [sortC_len] at h1
        have := TLR.out
        omega)
      have TL2 := Lib.hid (show (doS secS R.S (goneE s)).T.length ≤ 60 from by rw [← sortC_len, EQL.out]; exact FLN.out)
      have HNO := Lib.hid (show (doS secS R.S (goneE s)).has s = false from GD.out.2.2.1)
      generalize doS secS R.S (goneE s) = S2 at D6 GD HS2 HL2 EQL TL2 HNO RA ⊢
      have SX := Lib.hid (fun W (hW : ∃ z, W = ext w6 z) => D6.out.src.ext hW)
      refine wp_region_slots (frSf q1 l.length cp1 s s.size jb sb qo R.ok.length co gr cr w4.heap.size had q6 S2.L.length c6 y0 y1 y2 y3 y4) dstSf (fun _ => undef) (laysSf s jb sb vb R.ok.length gr cr qu (sortC R.S.T).length cu (sortC S2.T).length ((sortC R.S.T).filter fun (c : Cell) => !decide (txt c.subject = txt s)).length) (fun L g w => sfC w6 (L 1) (L 8) (L 10) (L 11) (L 12) (L 13) (L 16) (g 81) (g 88) (g 90) (g 96) (sortC S2.T) (sortC R.S.T) ((sortC R.S.T).filter fun (c : Cell) => !decide (txt c.subject = txt s)) (fun ss => txt s ∉ ss) w) (fun w w' => True) (by kernel_rfl) (by kernel_rfl) rfl ?_ (by kernel_rfl) sfC.start ?_ ?_
      · exact fun _ _ _ _ _ h => h
      · refine ⟨?_, ?_, ?_, ?_, ?_, ?_, ?_, ?_, ?_, ?_, ?_, ?_, ?_, ?_, ?_, ?_, ?_, ?_, ?_, ?_, trivial⟩
        all_goals (intro L gs w1 hLi hdeps hR hC; refine ends_of fun Q hQ => ?_)
        · have HQ := fun (a' : Act) (va : Value) (w' : World) (h1 : a' = frSf q1 l.length cp1 s s.size jb sb qo R.ok.length co gr cr w4.heap.size had q6 S2.L.length c6 y0 y1 y2 y3 y4 (upd1 gs 80 va)) h2 (h3 : laysSf s jb sb vb R.ok.length gr cr qu (sortC R.S.T).length cu (sortC S2.T).length ((sortC R.S.T).filter fun (c : Cell) => !decide (txt c.subject = txt s)).length 0 va w') h4 => hQ.out a' w' ⟨va, h1, h2, h3, h4⟩
          unfold frSf
          go_wp2_with fail
          exact HQ _ (.pointer (some ⟨sb, 0, none⟩)) _ (by simp only [frSf, upd1, Nat.reduceEqDiff, reduceIte]) trivial rfl hC
        · have HQ := fun (a' : Act) (va : Value) (w' : World) (h1 : a' = frSf q1 l.length cp1 s s.size jb sb qo R.ok.length co gr cr w4.heap.size had q6 S2.L.length c6 y0 y1 y2 y3 y4 (upd1 gs 81 va)) h2 (h3 : laysSf s jb sb vb R.ok.length gr cr qu (sortC R.S.T).length cu (sortC S2.T).length ((sortC R.S.T).filter fun (c : Cell) => !decide (txt c.subject = txt s)).length 1 va w') h4 => hQ.out a' w' ⟨va, h1, h2, h3, h4⟩
          have r0 : gs 80 = .pointer (some ⟨sb, 0, none⟩) := hR 0 (hdeps ⟨0, .data⟩ (by simp) rfl)
          unfold frSf
          go_wp2_with fail
          refine (scells_any w1 V F' sb vb _ secS _ (SX.out w1 (ext_of hC.below)) (by omega)).mono ?_
          rintro _ w5' ⟨v5', rfl, ho5, _, hb5⟩
          obtain ⟨q5, c5, rfl⟩ := rows_shape ho5
          go_wp2_with fail
          exact HQ _ (.slice q5 (sortC S2.T).length c5) _ (by simp only [frSf, upd1, r0, Nat.reduceEqDiff, reduceIte]) trivial ⟨_, _, rfl⟩ (hC.cells hb5 ho5)
        · have HQ := fun (a' : Act) (va : Value) (w' : World) (h1 : a' = frSf q1 l.length cp1 s s.size jb sb qo R.ok.length co gr cr w4.heap.size had q6 S2.L.length c6 y0 y1 y2 y3 y4 (upd1 gs 82 va)) h2 (h3 : laysSf s jb sb vb R.ok.length gr cr qu (sortC R.S.T).length cu (sortC S2.T).length ((sortC R.S.T).filter fun (c : Cell) => !decide (txt c.subject = txt s)).length 2 va w') h4 => hQ.out a' w' ⟨va, h1, h2, h3, h4⟩
          unfold frSf
          go_wp2_with fail
          exact HQ _ (.slice (some ⟨gr, 0, none⟩) (R.ok.length + 1) cr) _ (by simp only [frSf, upd1, Nat.reduceEqDiff, reduceIte]) trivial rfl hC
        · have HQ := fun (a' : Act) (va : Value) (w' : World) (h1 : a' = frSf q1 l.length cp1 s s.size jb sb qo R.ok.length co gr cr w4.heap.size had q6 S2.L.length c6 y0 y1 y2 y3 y4 (upd1 gs 83 va)) h2 (h3 : laysSf s jb sb vb R.ok.length gr cr qu (sortC R.S.T).length cu (sortC S2.T).length ((sortC R.S.T).filter fun (c : Cell) => !decide (txt c.subject = txt s)).length 3 va w') h4 => hQ.out a' w' ⟨va, h1, h2, h3, h4⟩
          unfold frSf
          go_wp2_with fail
          exact HQ _ (.slice (some ⟨gr, 0, none⟩) (R.ok.length + 1) cr) _ (by simp only [frSf, upd1, Nat.reduceEqDiff, reduceIte]) trivial rfl hC
        · have HQ := fun (a' : Act) (va : Value) (w' : World) (h1 : a' = frSf q1 l.length cp1 s s.size jb sb qo R.ok.length co gr cr w4.heap.size had q6 S2.L.length c6 y0 y1 y2 y3 y4 (upd1 gs 84 va)) h2 (h3 : laysSf s jb sb vb R.ok.length gr cr qu (sortC R.S.T).length cu (sortC S2.T).length ((sortC R.S.T).filter fun (c : Cell) => !decide (txt c.subject = txt s)).length 4 va w') h4 => hQ.out a' w' ⟨va, h1, h2, h3, h4⟩
          have r3 : gs 83 = .slice (some ⟨gr, 0, none⟩) (R.ok.length + 1) cr := hR 3 (hdeps ⟨3, .data⟩ (by simp) rfl)
          unfold frSf
          go_wp2_with fail
          exact HQ _ (.int .i64 (R.ok.length + 1)) _ (by simp only [frSf, upd1, r3, Nat.reduceEqDiff, reduceIte]) trivial rfl hC
        · have HQ := fun (a' : Act) (va : Value) (w' : World) (h1 : a' = frSf q1 l.length cp1 s s.size jb sb qo R.ok.length co gr cr w4.heap.size had q6 S2.L.length c6 y0 y1 y2 y3 y4 (upd1 gs 85 va)) h2 (h3 : laysSf s jb sb vb R.ok.length gr cr qu (sortC R.S.T).length cu (sortC S2.T).length ((sortC R.S.T).filter fun (c : Cell) => !decide (txt c.subject = txt s)).length 5 va w') h4 => hQ.out a' w' ⟨va, h1, h2, h3, h4⟩
          have r4 : gs 84 = .int .i64 (R.ok.length + 1) := hR 4 (hdeps ⟨4, .data⟩ (by simp) rfl)
          unfold frSf
          go_wp2_with fail
          exact HQ _ (.int .i64 R.ok.length) _ (by simp only [frSf, upd1, r4, Nat.reduceEqDiff, reduceIte]) trivial rfl hC
        · have HQ := fun (a' : Act) (va : Value) (w' : World) (h1 : a' = frSf q1 l.length cp1 s s.size jb sb qo R.ok.length co gr cr w4.heap.size had q6 S2.L.length c6 y0 y1 y2 y3 y4 (upd1 gs 86 va)) h2 (h3 : laysSf s jb sb vb R.ok.length gr cr qu (sortC R.S.T).length cu (sortC S2.T).length ((sortC R.S.T).filter fun (c : Cell) => !decide (txt c.subject = txt s)).length 6 va w') h4 => hQ.out a' w' ⟨va, h1, h2, h3, h4⟩
          have r2 : gs 82 = .slice (some ⟨gr, 0, none⟩) (R.ok.length + 1) cr := hR 2 (hdeps ⟨2, .data⟩ (by simp) rfl)
          have r5 : gs 85 = .int .i64 R.ok.length := hR 5 (hdeps ⟨5, .data⟩ (by simp) rfl)
          unfold frSf
          go_wp2_with fail
          exact HQ _ (.pointer (some ⟨gr, R.ok.length, none⟩)) _ (by simp only [frSf, upd1, r2, r5, Nat.reduceEqDiff, reduceIte]) trivial rfl hC
        · have HQ := fun (a' : Act) (va : Value) (w' : World) (h1 : a' = frSf q1 l.length cp1 s s.size jb sb qo R.ok.length co gr cr w4.heap.size had q6 S2.L.length c6 y0 y1 y2 y3 y4 (upd1 gs 87 va)) h2 (h3 : laysSf s jb sb vb R.ok.length gr cr qu (sortC R.S.T).length cu (sortC S2.T).length ((sortC R.S.T).filter fun (c : Cell) => !decide (txt c.subject = txt s)).length 7 va w') h4 => hQ.out a' w' ⟨va, h1, h2, h3, h4⟩
          have r6 : gs 86 = .pointer (some ⟨gr, R.ok.length, none⟩) := hR 6 (hdeps ⟨6, .data⟩ (by simp) rfl)
          have cu1 := cell_below (p := ⟨gr, R.ok.length, none⟩) hC.below HGR.out CU.out
          have lw1 : gr < w1.heap.size := Nat.lt_of_lt_of_le HGR.out hC.below.size
          unfold frSf
          go_wp2_with fail
          exact HQ _ (.slice qu (sortC R.S.T).length cu) _ (by simp only [frSf, upd1, r6, Nat.reduceEqDiff, reduceIte]) trivial rfl hC
        · have HQ := fun (a' : Act) (va : Value) (w' : World) (h1 : a' = frSf q1 l.length cp1 s s.size jb sb qo R.ok.length co gr cr w4.heap.size had q6 S2.L.length c6 y0 y1 y2 y3 y4 (upd1 gs 88 va)) h2 (h3 : laysSf s jb sb vb R.ok.length gr cr qu (sortC R.S.T).length cu (sortC S2.T).length ((sortC R.S.T).filter fun (c : Cell) => !decide (txt c.subject = txt s)).length 8 va w') h4 => hQ.out a' w' ⟨va, h1, h2, h3, h4⟩
          have r7 : gs 87 = .slice qu (sortC R.S.T).length cu := hR 7 (hdeps ⟨7, .data⟩ (by simp) rfl)
          unfold frSf
          go_wp2_with fail
          refine (clone_any qu cu (sortC R.S.T) w1 (CI.out w1 (ext_of hC.below)) (by rw [sortC_len]; have := TLR.out; omega)).mono ?_
          rintro _ w5' ⟨v5', rfl, ho5, hb5⟩
          obtain ⟨q5, c5, rfl⟩ := rows_shape ho5
          go_wp2_with fail
          exact HQ _ (.slice q5 (sortC R.S.T).length c5) _ (by simp only [frSf, upd1, r7, Nat.reduceEqDiff, reduceIte]) trivial ⟨_, _, rfl⟩ (hC.clone hb5 ho5)
        · have HQ := fun (a' : Act) (va : Value) (w' : World) (h1 : a' = frSf q1 l.length cp1 s s.size jb sb qo R.ok.length co gr cr w4.heap.size had q6 S2.L.length c6 y0 y1 y2 y3 y4 (upd1 gs 89 va)) h2 (h3 : laysSf s jb sb vb R.ok.length gr cr qu (sortC R.S.T).length cu (sortC S2.T).length ((sortC R.S.T).filter fun (c : Cell) => !decide (txt c.subject = txt s)).length 9 va w') h4 => hQ.out a' w' ⟨va, h1, h2, h3, h4⟩
          unfold frSf
          go_wp2_with fail
          exact HQ _ (.func (.func 32) #[] #[.pointer (some ⟨jb, 0, none⟩)]) _ (by simp only [frSf, upd1, Nat.reduceEqDiff, reduceIte]) trivial rfl hC
        · have HQ := fun (a' : Act) (va : Value) (w' : World) (h1 : a' = frSf q1 l.length cp1 s s.size jb sb qo R.ok.length co gr cr w4.heap.size had q6 S2.L.length c6 y0 y1 y2 y3 y4 (upd1 gs 90 va)) h2 (h3 : laysSf s jb sb vb R.ok.length gr cr qu (sortC R.S.T).length cu (sortC S2.T).length ((sortC R.S.T).filter fun (c : Cell) => !decide (txt c.subject = txt s)).length 10 va w') h4 => hQ.out a' w' ⟨va, h1, h2, h3, h4⟩
          have r8 := hR 8 (hdeps ⟨8, .data⟩ (by simp) rfl)
          have r9 : gs 89 = .func (.func 32) #[] #[.pointer (some ⟨jb, 0, none⟩)] := hR 9 (hdeps ⟨9, .data⟩ (by simp) rfl)
          obtain ⟨q8, c8, h8⟩ := r8
          change gs 88 = _ at h8
          have l8 : L 8 = true := hdeps ⟨8, .data⟩ (by simp) rfl
          have oc := (hC.c_ l8 hLi).1
          rw [h8] at oc
          have jb1 := (hC.below.block jb (lt_of_heap J6.out)).trans J6.out
          have jc1 := cell1' jb1
          have jl1 := lt_of_heap jb1
          have DL := delS_any (fun c => decide (txt c.subject = txt s)) (.pointer (some ⟨jb, 0, none⟩)) w6.heap.size _ (sortC R.S.T) w1 oc (by rw [sortC_len]; have := TLR.out; omega) (fun c W' hW => fg2_any c s jb W' ((hW.block jb jl1 (fun e => by have := (oc.base e.symm).1; have := lt_of_heap J6.out; omega)).trans jb1))
          clear jc1 jl1
          unfold frSf
          go_wp2_with fail
          refine DL.mono ?_
          rintro _ w5' ⟨v5', rfl, ho5, hg5⟩
          obtain ⟨q5, c5, rfl⟩ := rows_shape ho5
          go_wp2_with fail
          exact HQ _ (.slice q5 ((sortC R.S.T).filter fun (c : Cell) => !decide (txt c.subject = txt s)).length c5) _ (by simp only [frSf, upd1, r9, h8, Nat.reduceEqDiff, reduceIte]) trivial ⟨_, _, rfl⟩ (hC.del l8 hLi (by rw [h8]; exact hg5) ho5)
        · have HQ := fun (a' : Act) (va : Value) (w' : World) (h1 : a' = frSf q1 l.length cp1 s s.size jb sb qo R.ok.length co gr cr w4.heap.size had q6 S2.L.length c6 y0 y1 y2 y3 y4 (upd1 gs 91 va)) h2 (h3 : laysSf s jb sb vb R.ok.length gr cr qu (sortC R.S.T).length cu (sortC S2.T).length ((sortC R.S.T).filter fun (c : Cell) => !decide (txt c.subject = txt s)).length 11 va w') h4 => hQ.out a' w' ⟨va, h1, h2, h3, h4⟩
          have r1 := hR 1 (hdeps ⟨1, .data⟩ (by simp) rfl)
          have r10 := hR 10 (hdeps ⟨10, .data⟩ (by simp) rfl)
          obtain ⟨q1', c1', h1'⟩ := r1
          change gs 81 = _ at h1'
          obtain ⟨q2', c2', h2'⟩ := r10
          change gs 90 = _ at h2'
          have l10 : L 10 = true := hdeps ⟨10, .data⟩ (by simp) rfl
          have oa := hC.a_ (hdeps ⟨1, .data⟩ (by simp) rfl)
          have od := hC.d_ l10
          rw [h1'] at oa
          rw [h2'] at od
          have EQ := eqC_any q1' q2' c1' c2' _ _ w1 (by rw [sortC_len]; have := TL2.out; omega) (by have := FLN.out; omega) (cellsIn_of oa).1 (cellsIn_of od).1
          rw [(allEq_cells _ _).2 EQL.out] at EQ
          clear oa od
          unfold frSf
          go_wp2_with fail
          refine EQ.mono ?_
          rintro _ w5' ⟨rfl, hx⟩
          go_wp2_with fail
          exact HQ _ (.bool true) _ (by simp only [frSf, upd1, h1', h2', Nat.reduceEqDiff, reduceIte]) trivial rfl ((hC.ext hx).k11 l10)
        · have HQ := fun (a' : Act) (va : Value) (w' : World) (h1 : a' = frSf q1 l.length cp1 s s.size jb sb qo R.ok.length co gr cr w4.heap.size had q6 S2.L.length c6 y0 y1 y2 y3 y4 (upd1 gs 92 va)) h2 (h3 : laysSf s jb sb vb R.ok.length gr cr qu (sortC R.S.T).length cu (sortC S2.T).length ((sortC R.S.T).filter fun (c : Cell) => !decide (txt c.subject = txt s)).length 12 va w') h4 => hQ.out a' w' ⟨va, h1, h2, h3, h4⟩
          have r11 : gs 91 = .bool true := hR 11 (hdeps ⟨11, .data⟩ (by simp) rfl)
          unfold frSf
          go_wp2_with fail
          exact HQ _ (.bool false) _ (by simp only [frSf, upd1, r11, Nat.reduceEqDiff, reduceIte]) trivial rfl (hC.k12 (hdeps ⟨11, .data⟩ (by simp) rfl))
        · have HQ := fun (a' : Act) (va : Value) (w' : World) (h1 : a' = frSf q1 l.length cp1 s s.size jb sb qo R.ok.length co gr cr w4.heap.size had q6 S2.L.length c6 y0 y1 y2 y3 y4 (upd1 gs 93 va)) h2 (h3 : laysSf s jb sb vb R.ok.length gr cr qu (sortC R.S.T).length cu (sortC S2.T).length ((sortC R.S.T).filter fun (c : Cell) => !decide (txt c.subject = txt s)).length 13 va w') h4 => hQ.out a' w' ⟨va, h1, h2, h3, h4⟩
          have r12 : gs 92 = .bool false := hR 12 (hdeps ⟨12, .data⟩ (by simp) rfl)
          unfold frSf
          go_wp2_with fail
          exact HQ _ (.bool false) _ (by simp only [frSf, upd1, r12, Nat.reduceEqDiff, reduceIte]) trivial rfl (hC.k13 (hdeps ⟨12, .data⟩ (by simp) rfl))
        · have HQ := fun (a' : Act) (va : Value) (w' : World) (h1 : a' = frSf q1 l.length cp1 s s.size jb sb qo R.ok.length co gr cr w4.heap.size had q6 S2.L.length c6 y0 y1 y2 y3 y4 (upd1 gs 94 va)) h2 (h3 : laysSf s jb sb vb R.ok.length gr cr qu (sortC R.S.T).length cu (sortC S2.T).length ((sortC R.S.T).filter fun (c : Cell) => !decide (txt c.subject = txt s)).length 14 va w') h4 => hQ.out a' w' ⟨va, h1, h2, h3, h4⟩
          have r13 : gs 93 = .bool false := hR 13 (hdeps ⟨13, .guard⟩ (by simp) rfl)
          unfold frSf
          go_wp2_with fail
          exact HQ _ (.pointer (some ⟨sb, 0, none⟩)) _ (by simp only [frSf, upd1, r13, Nat.reduceEqDiff, reduceIte]) trivial rfl hC
        · have HQ := fun (a' : Act) (va : Value) (w' : World) (h1 : a' = frSf q1 l.length cp1 s s.size jb sb qo R.ok.length co gr cr w4.heap.size had q6 S2.L.length c6 y0 y1 y2 y3 y4 (upd1 gs 95 va)) h2 (h3 : laysSf s jb sb vb R.ok.length gr cr qu (sortC R.S.T).length cu (sortC S2.T).length ((sortC R.S.T).filter fun (c : Cell) => !decide (txt c.subject = txt s)).length 15 va w') h4 => hQ.out a' w' ⟨va, h1, h2, h3, h4⟩
          have r14 : gs 94 = .pointer (some ⟨sb, 0, none⟩) := hR 14 (hdeps ⟨14, .data⟩ (by simp) rfl)
          have r13 : gs 93 = .bool false := hR 13 (hdeps ⟨13, .guard⟩ (by simp) rfl)
          unfold frSf
          go_wp2_with fail
          refine (svault_any w1 V F' sb vb _ secS _ (SX.out w1 (ext_of hC.below))).mono ?_
          rintro _ w5' ⟨rfl, rfl⟩
          go_wp2_with fail
          exact HQ _ (.pointer (some ⟨vb, 0, none⟩)) _ (by simp only [frSf, upd1, r14, r13, Nat.reduceEqDiff, reduceIte]) trivial rfl hC
        · have HQ := fun (a' : Act) (va : Value) (w' : World) (h1 : a' = frSf q1 l.length cp1 s s.size jb sb qo R.ok.length co gr cr w4.heap.size had q6 S2.L.length c6 y0 y1 y2 y3 y4 (upd1 gs 96 va)) h2 (h3 : laysSf s jb sb vb R.ok.length gr cr qu (sortC R.S.T).length cu (sortC S2.T).length ((sortC R.S.T).filter fun (c : Cell) => !decide (txt c.subject = txt s)).length 16 va w') h4 => hQ.out a' w' ⟨va, h1, h2, h3, h4⟩
          have r15 : gs 95 = .pointer (some ⟨vb, 0, none⟩) := hR 15 (hdeps ⟨15, .data⟩ (by simp) rfl)
          have r13 : gs 93 = .bool false := hR 13 (hdeps ⟨13, .guard⟩ (by simp) rfl)
          have l13 : L 13 = true := hdeps ⟨13, .guard⟩ (by simp) rfl
          unfold frSf
          go_wp2_with fail
          refine (subjects_any w1 V vb _ secS S2.many S2.has (SX.out w1 (ext_of hC.below)).vault.1 (by omega)).mono ?_
          rintro _ w5' ⟨v5', ss5, rfl, hm5, hl5, ho5, hb5⟩
          obtain ⟨q5, c5, rfl⟩ := ownsSt_shape (ss := ss5) ho5
          go_wp2_with fail
          exact HQ _ (.slice q5 ss5.length c5) _ (by simp only [frSf, upd1, r15, r13, Nat.reduceEqDiff, reduceIte]) trivial ⟨_, _, _, rfl⟩ (hC.subj hb5 (hC.k_ (.inr (.inr (.inl l13)))) (fun hm => by have := (hm5 s).1 hm; rw [HNO.out] at this; cases this) (by omega) ho5)
        · have HQ := fun (a' : Act) (va : Value) (w' : World) (h1 : a' = frSf q1 l.length cp1 s s.size jb sb qo R.ok.length co gr cr w4.heap.size had q6 S2.L.length c6 y0 y1 y2 y3 y4 (upd1 gs 97 va)) h2 (h3 : laysSf s jb sb vb R.ok.length gr cr qu (sortC R.S.T).length cu (sortC S2.T).length ((sortC R.S.T).filter fun (c : Cell) => !decide (txt c.subject = txt s)).length 17 va w') h4 => hQ.out a' w' ⟨va, h1, h2, h3, h4⟩
          have r13 : gs 93 = .bool false := hR 13 (hdeps ⟨13, .guard⟩ (by simp) rfl)
          have jb1 := (hC.below.block jb (lt_of_heap J6.out)).trans J6.out
          have jc1 := cell1' jb1
          have jl1 := lt_of_heap jb1
          unfold frSf
          go_wp2_with fail
          exact HQ _ (.string s) _ (by simp only [frSf, upd1, r13, Nat.reduceEqDiff, reduceIte]) trivial rfl hC
        · have HQ := fun (a' : Act) (va : Value) (w' : World) (h1 : a' = frSf q1 l.length cp1 s s.size jb sb qo R.ok.length co gr cr w4.heap.size had q6 S2.L.length c6 y0 y1 y2 y3 y4 (upd1 gs 98 va)) h2 (h3 : laysSf s jb sb vb R.ok.length gr cr qu (sortC R.S.T).length cu (sortC S2.T).length ((sortC R.S.T).filter fun (c : Cell) => !decide (txt c.subject = txt s)).length 18 va w') h4 => hQ.out a' w' ⟨va, h1, h2, h3, h4⟩
          have r17 : gs 97 = .string s := hR 17 (hdeps ⟨17, .data⟩ (by simp) rfl)
          have r13 : gs 93 = .bool false := hR 13 (hdeps ⟨13, .guard⟩ (by simp) rfl)
          obtain ⟨ss5, hp5, hl5, ho5⟩ := hC.s_ (hdeps ⟨16, .data⟩ (by simp) rfl)
          obtain ⟨q5, c5, h5⟩ := ownsSt_shape ho5
          rw [h5] at ho5
          unfold frSf
          go_wp2_with fail
          refine (containsS_no q5 c5 _ ss5 s w1 ho5 hp5 hl5).mono ?_
          rintro _ w5' ⟨rfl, hx⟩
          go_wp2_with fail
          exact HQ _ (.bool false) _ (by simp only [frSf, upd1, r17, r13, h5, Nat.reduceEqDiff, reduceIte]) trivial rfl (hC.ext hx)
        · have HQ := fun (a' : Act) (va : Value) (w' : World) (h1 : a' = frSf q1 l.length cp1 s s.size jb sb qo R.ok.length co gr cr w4.heap.size had q6 S2.L.length c6 y0 y1 y2 y3 y4 (upd1 gs 99 va)) h2 (h3 : laysSf s jb sb vb R.ok.length gr cr qu (sortC R.S.T).length cu (sortC S2.T).length ((sortC R.S.T).filter fun (c : Cell) => !decide (txt c.subject = txt s)).length 19 va w') h4 => hQ.out a' w' ⟨va, h1, h2, h3, h4⟩
          have r13 : gs 93 = .bool false := hR 13 (hdeps ⟨13, .data⟩ (by simp) rfl)
          have r18 : gs 98 = .bool false := hR 18 (hdeps ⟨18, .data⟩ (by simp) rfl)
          unfold frSf
          go_wp2_with fail
          exact HQ _ (.bool false) _ (by simp only [frSf, upd1, r13, r18, Nat.reduceEqDiff, reduceIte]) trivial rfl hC
      intro L20 g20 w20 hall hR hC
      have s99 : g20 99 = .bool false := hR 19 (by decide)
      have X20 := Lib.hid (ext_of hC.below)
      have D20 := Lib.hid (D6.out.ext X20.out)
      have RA20 := Lib.hid (recsAt_of RA.out (fun k hk => hC.below.block k hk) hC.below.size)
      have J20 := Lib.hid ((hC.below.block _ (lt_of_heap J6.out)).trans J6.out)
      have Q6 := Lib.hid (show ∀ a, q6 = some a → ¬ F' a.block ∧ a.block < w20.heap.size from fun a ha => by
        obtain ⟨b1, b2⟩ := OFF6.out a ha
        exact ⟨b1, Nat.lt_of_lt_of_le b2 hC.below.size⟩)
      have GL2 := Lib.hid (show ∀ i r e, S2.L[i]? = some r → R.ok[i]? = some e → isTold secS r e ∧ r.gen ≤ (S2.many r.subject : Nat) ∧ (txt e.subject = txt s → e.kind ≠ 3 → lostR S2.many S2.has r = true) from fun i r e h1 h2 => by
        have := GL.out i r e (by rw [HS2.out]; exact h1) h2
        rw [HS2.out] at this
        exact this)
      have GB := Lib.hid (show ∀ r ∈ S2.L, txt r.subject = txt s → r.gen ≤ (S2.many s : Nat) from fun r h1 h2 => by
        have := gen_below HR2.out (s := s) (r := r) (by rw [HS2.out]; exact h1) h2
        rw [HS2.out] at this
        exact this)
      have HMM := Lib.hid (show S2.many s ≤ 60 ∧ S2.L.length ≤ 60 from by
        have h1 := HR2.out.inv.cnt s
        rw [HS2.out] at h1
        have := HL2.out
        omega)
      have VI := Lib.hid D20.out.src.vault.1
      have GV := Lib.hid ((GG.out.ext X2.out).step (D20.out.st.more (F' := V) (fun i hi => .inl (D20.out.sub i (D20.out.src.vault.2 i hi)))))
      have GF := Lib.hid ((GG.out.ext X2.out).step (D20.out.st.more (F' := F') (fun i hi => .inl (D20.out.sub i hi))))
      have EO := Lib.hid (evsAt_owned D20.out.oks)
      have OKQ := Lib.hid D20.out.oks
      have hS2L : S2.L.length = R.ok.length + 1 := HL2.out
      have HSL := Lib.hid hS2L
      clear hS2L hall hR hC SX RA J6 GL X6 CU CI HGR D6
      unfold frSf
      simp only [s99]
      clear s99
      go_wp2_with fail
      go_loopw [15] (fun iv wr => ∃ k : Nat, k ≤ R.ok.length ∧ iv = .int .i64 k ∧ Hid (∃ z, wr = ext w20 z)) (fun iv _ => R.ok.length - (intOf iv).toNat)
      case atStart => exact ⟨0, Nat.zero_le _, rfl, Lib.hid (ext_refl w20)⟩
      case round =>
        obtain ⟨k, hk, rfl, XX⟩ := hrel
        by_cases hlt : k < R.ok.length
        · have hlt' : (k : Int) < R.ok.length := by omega
          have he := List.getElem?_eq_getElem hlt
          have hxl : k < S2.L.length := by rw [HSL.out]; omega
          have hx := List.getElem?_eq_getElem hxl
          have hxl' : (k : Int) < S2.L.length := by omega
          have TO := Lib.hid (GL2.out k _ _ hx he)
          have RQ := Lib.hid (fun (W : World) (hW : ∃ z, W = ext wr z) => (recsAt_of RA20.out (fun k hk => (ext_iff.1 (ext_trans XX.out hW)).block k hk) (ext_iff.1 (ext_trans XX.out hW)).size : recsAt W q6 S2.L))
          have SX := Lib.hid (fun W (hW : ∃ z, W = ext wr z) => D20.out.src.ext (ext_trans XX.out hW))
          have hxw := hx
          obtain ⟨g, o, rfl, _⟩ := recsAt_row (RQ.out wr (ext_refl wr)) hx
          generalize S2.L[k] = x at hx hxw TO
          generalize R.ok[k] = e at he TO
          have FO := fun (W : World) (hW : ∃ z, W = ext wr z) => fopen_any e x W V vb _ secS S2.many S2.has (VI.out.ext (ext_trans XX.out hW)) (GV.out.ext (ext_trans XX.out hW)) TO.out.1 TO.out.2.1
          obtain ⟨q0, u0, g0, p0, b0⟩ := x
          obtain ⟨k0, s0, t0, r0, v0⟩ := e
          unfold OpenPost openV recV evV at FO
          dsimp only at FO
          generalize hee : (if lostR S2.many S2.has ⟨q0, u0, g0, p0, b0⟩ = true then zeroE else (⟨k0, s0, t0, r0, v0⟩ : Ev)) = ee at FO
          generalize hxv : (if lostR S2.many S2.has ⟨q0, u0, g0, p0, b0⟩ = true then errV 8 else Value.nilIface) = xv at FO
          obtain ⟨ke, se, te, re, ve⟩ := ee
          dsimp only at FO
          have FO := Lib.hid FO
          have HEE := Lib.hid hee
          have HXV := Lib.hid hxv
          have TL3 := Lib.hid (show txt s0 = txt s → k0 ≠ 3 → lostR S2.many S2.has ⟨q0, u0, g0, p0, b0⟩ = true from TO.out.2.2)
          clear hee hxv hx
          go_wp2_with fail
          refine wp_region_slots (frSg q1 l.length cp1 s s.size jb sb qo R.ok.length co gr cr w4.heap.size had S2.L.length c6 y0 y1 y2 y3 y4 g20 g o k u4 u104 u105 u116 u117 u118 u119 u120 u121 u122 u123 u124 u125 u126 u127 u128 u129 u130 u131 u132 u133 u134 u135 u136 u137 u138 u139 u140 u141 u142 u143 u144 u145) dstSg (fun k => if k = 107 then u107 else if k = 108 then u108 else if k = 109 then u109 else if k = 110 then u110 else if k = 111 then u111 else if k = 112 then u112 else if k = 113 then u113 else if k = 106 then u106 else if k = 114 then u114 else if k = 115 then u115 else if k = 16 then u16 else if k = 17 then u17 else undef) (laysSg sb vb S2.L.length c6 g o k q0 u0 g0 p0 b0 ke se te re ve xv) (fun L g w => newA 51 wr #[.int .i64 0, .string ⟨#[]⟩, .string ⟨#[]⟩, .string ⟨#[]⟩, .string ⟨#[]⟩] #[.int .i64 ke, .string se, .string te, .string re, .string ve] (L 10) (L 11) (g 16) w) (fun w w' => True) (by kernel_rfl) (by kernel_rfl) rfl ?_ (by kernel_rfl) (newA.start _ _ _ _ _) ?_ ?_
          · exact fun _ _ _ _ _ h => h
          · refine ⟨?_, ?_, ?_, ?_, ?_, ?_, ?_, ?_, ?_, ?_, ?_, ?_, ?_, trivial⟩
            all_goals (intro L gs w1 hLi hdeps hR hC; refine ends_of fun Q hQ => ?_)
            · have HQ := fun (a' : Act) (va : Value) (w' : World) (h1 : a' = frSg q1 l.length cp1 s s.size jb sb qo R.ok.length co gr cr w4.heap.size had S2.L.length c6 y0 y1 y2 y3 y4 g20 g o k u4 u104 u105 u116 u117 u118 u119 u120 u121 u122 u123 u124 u125 u126 u127 u128 u129 u130 u131 u132 u133 u134 u135 u136 u137 u138 u139 u140 u141 u142 u143 u144 u145 (upd1 gs 107 va)) h2 (h3 : laysSg sb vb S2.L.length c6 g o k q0 u0 g0 p0 b0 ke se te re ve xv 0 va w') h4 => hQ.out a' w' ⟨va, h1, h2, h3, h4⟩
              unfold frSg
              go_wp2_with fail
              exact HQ _ (.pointer (some ⟨sb, 0, none⟩)) _ (by simp only [frSg, upd1, Nat.reduceEqDiff, reduceIte]) trivial rfl hC
            · have HQ := fun (a' : Act) (va : Value) (w' : World) (h1 : a' = frSg q1 l.length cp1 s s.size jb sb qo R.ok.length co gr cr w4.heap.size had S2.L.length c6 y0 y1 y2 y3 y4 g20 g o k u4 u104 u105 u116 u117 u118 u119 u120 u121 u122 u123 u124 u125 u126 u127 u128 u129 u130 u131 u132 u133 u134 u135 u136 u137 u138 u139 u140 u141 u142 u143 u144 u145 (upd1 gs 108 va)) h2 (h3 : laysSg sb vb S2.L.length c6 g o k q0 u0 g0 p0 b0 ke se te re ve xv 1 va w') h4 => hQ.out a' w' ⟨va, h1, h2, h3, h4⟩
              have r0 : gs 107 = .pointer (some ⟨sb, 0, none⟩) := hR 0 (hdeps ⟨0, .data⟩ (by simp) rfl)
              unfold frSg
              go_wp2_with fail
              refine (svault_any w1 V F' sb vb _ secS _ (SX.out w1 (ext_of hC.1))).mono ?_
              rintro _ w5' ⟨rfl, rfl⟩
              go_wp2_with fail
              exact HQ _ (.pointer (some ⟨vb, 0, none⟩)) _ (by simp only [frSg, upd1, r0, Nat.reduceEqDiff, reduceIte]) trivial rfl hC
            · have HQ := fun (a' : Act) (va : Value) (w' : World) (h1 : a' = frSg q1 l.length cp1 s s.size jb sb qo R.ok.length co gr cr w4.heap.size had S2.L.length c6 y0 y1 y2 y3 y4 g20 g o k u4 u104 u105 u116 u117 u118 u119 u120 u121 u122 u123 u124 u125 u126 u127 u128 u129 u130 u131 u132 u133 u134 u135 u136 u137 u138 u139 u140 u141 u142 u143 u144 u145 (upd1 gs 109 va)) h2 (h3 : laysSg sb vb S2.L.length c6 g o k q0 u0 g0 p0 b0 ke se te re ve xv 2 va w') h4 => hQ.out a' w' ⟨va, h1, h2, h3, h4⟩
              unfold frSg
              go_wp2_with fail
              exact HQ _ (.slice (some ⟨g, o, none⟩) S2.L.length c6) _ (by simp only [frSg, upd1, Nat.reduceEqDiff, reduceIte]) trivial rfl hC
            · have HQ := fun (a' : Act) (va : Value) (w' : World) (h1 : a' = frSg q1 l.length cp1 s s.size jb sb qo R.ok.length co gr cr w4.heap.size had S2.L.length c6 y0 y1 y2 y3 y4 g20 g o k u4 u104 u105 u116 u117 u118 u119 u120 u121 u122 u123 u124 u125 u126 u127 u128 u129 u130 u131 u132 u133 u134 u135 u136 u137 u138 u139 u140 u141 u142 u143 u144 u145 (upd1 gs 110 va)) h2 (h3 : laysSg sb vb S2.L.length c6 g o k q0 u0 g0 p0 b0 ke se te re ve xv 3 va w') h4 => hQ.out a' w' ⟨va, h1, h2, h3, h4⟩
              unfold frSg
              go_wp2_with fail
              exact HQ _ (.int .i64 k) _ (by simp only [frSg, upd1, Nat.reduceEqDiff, reduceIte]) trivial rfl hC
            · have HQ := fun (a' : Act) (va : Value) (w' : World) (h1 : a' = frSg q1 l.length cp1 s s.size jb sb qo R.ok.length co gr cr w4.heap.size had S2.L.length c6 y0 y1 y2 y3 y4 g20 g o k u4 u104 u105 u116 u117 u118 u119 u120 u121 u122 u123 u124 u125 u126 u127 u128 u129 u130 u131 u132 u133 u134 u135 u136 u137 u138 u139 u140 u141 u142 u143 u144 u145 (upd1 gs 111 va)) h2 (h3 : laysSg sb vb S2.L.length c6 g o k q0 u0 g0 p0 b0 ke se te re ve xv 4 va w') h4 => hQ.out a' w' ⟨va, h1, h2, h3, h4⟩
              have r2 : gs 109 = .slice (some ⟨g, o, none⟩) S2.L.length c6 := hR 2 (hdeps ⟨2, .data⟩ (by simp) rfl)
              have r3 : gs 110 = .int .i64 k := hR 3 (hdeps ⟨3, .data⟩ (by simp) rfl)
              unfold frSg
              go_wp2_with fail
              exact HQ _ (.pointer (some ⟨g, o + k * 5, none⟩)) _ (by simp only [frSg, upd1, r2, r3, Nat.reduceEqDiff, reduceIte]) trivial rfl hC
            · have HQ := fun (a' : Act) (va : Value) (w' : World) (h1 : a' = frSg q1 l.length cp1 s s.size jb sb qo R.ok.length co gr cr w4.heap.size had S2.L.length c6 y0 y1 y2 y3 y4 g20 g o k u4 u104 u105 u116 u117 u118 u119 u120 u121 u122 u123 u124 u125 u126 u127 u128 u129 u130 u131 u132 u133 u134 u135 u136 u137 u138 u139 u140 u141 u142 u143 u144 u145 (upd1 gs 112 va)) h2 (h3 : laysSg sb vb S2.L.length c6 g o k q0 u0 g0 p0 b0 ke se te re ve xv 5 va w') h4 => hQ.out a' w' ⟨va, h1, h2, h3, h4⟩
              have r4 : gs 111 = .pointer (some ⟨g, o + k * 5, none⟩) := hR 4 (hdeps ⟨4, .data⟩ (by simp) rfl)
              obtain ⟨g', o', hq', e0, e1, e2, e3, e4, hg'⟩ := recsAt_row (RQ.out w1 (ext_of hC.1)) hxw
              simp only [Option.some.injEq, Addr.mk.injEq, and_true] at hq'
              obtain ⟨rfl, rfl⟩ := hq'
              dsimp only at e0 e1 e2 e3 e4
              unfold frSg
              go_wp2_with fail
              exact HQ _ (.agg #[.int .i64 q0, .string u0, .int .i64 g0, .string p0, .string b0]) _ (by simp only [frSg, upd1, r4, Nat.reduceEqDiff, reduceIte]) trivial rfl hC
            · have HQ := fun (a' : Act) (va : Value) (w' : World) (h1 : a' = frSg q1 l.length cp1 s s.size jb sb qo R.ok.length co gr cr w4.heap.size had S2.L.length c6 y0 y1 y2 y3 y4 g20 g o k u4 u104 u105 u116 u117 u118 u119 u120 u121 u122 u123 u124 u125 u126 u127 u128 u129 u130 u131 u132 u133 u134 u135 u136 u137 u138 u139 u140 u141 u142 u143 u144 u145 (upd1 gs 113 va)) h2 (h3 : laysSg sb vb S2.L.length c6 g o k q0 u0 g0 p0 b0 ke se te re ve xv 6 va w') h4 => hQ.out a' w' ⟨va, h1, h2, h3, h4⟩
              have r1 : gs 108 = .pointer (some ⟨vb, 0, none⟩) := hR 1 (hdeps ⟨1, .data⟩ (by simp) rfl)
              have r5 : gs 112 = .agg #[.int .i64 q0, .string u0, .int .i64 g0, .string p0, .string b0] := hR 5 (hdeps ⟨5, .data⟩ (by simp) rfl)
              unfold frSg
              go_wp2_with fail
              refine (FO.out w1 (ext_of hC.1)).mono ?_
              rintro _ w5' ⟨rfl, hx⟩
              go_wp2_with fail
              exact HQ _ (.tuple #[.agg #[.int .i64 ke, .string se, .string te, .string re, .string ve], xv]) _ (by simp only [frSg, upd1, r1, r5, Nat.reduceEqDiff, reduceIte]) trivial rfl (newA.ext hC hx)
            · have HQ := fun (a' : Act) (va : Value) (w' : World) (h1 : a' = frSg q1 l.length cp1 s s.size jb sb qo R.ok.length co gr cr w4.heap.size had S2.L.length c6 y0 y1 y2 y3 y4 g20 g o k u4 u104 u105 u116 u117 u118 u119 u120 u121 u122 u123 u124 u125 u126 u127 u128 u129 u130 u131 u132 u133 u134 u135 u136 u137 u138 u139 u140 u141 u142 u143 u144 u145 (upd1 gs 106 va)) h2 (h3 : laysSg sb vb S2.L.length c6 g o k q0 u0 g0 p0 b0 ke se te re ve xv 7 va w') h4 => hQ.out a' w' ⟨va, h1, h2, h3, h4⟩
              have r6 : gs 113 = .tuple #[.agg #[.int .i64 ke, .string se, .string te, .string re, .string ve], xv] := hR 6 (hdeps ⟨6, .data⟩ (by simp) rfl)
              unfold frSg
              go_wp2_with fail
              exact HQ _ (.tuple #[.agg #[.int .i64 ke, .string se, .string te, .string re, .string ve], xv]) _ (by simp only [frSg, upd1, r6, Nat.reduceEqDiff, reduceIte]) trivial rfl hC
            · have HQ := fun (a' : Act) (va : Value) (w' : World) (h1 : a' = frSg q1 l.length cp1 s s.size jb sb qo R.ok.length co gr cr w4.heap.size had S2.L.length c6 y0 y1 y2 y3 y4 g20 g o k u4 u104 u105 u116 u117 u118 u119 u120 u121 u122 u123 u124 u125 u126 u127 u128 u129 u130 u131 u132 u133 u134 u135 u136 u137 u138 u139 u140 u141 u142 u143 u144 u145 (upd1 gs 114 va)) h2 (h3 : laysSg sb vb S2.L.length c6 g o k q0 u0 g0 p0 b0 ke se te re ve xv 8 va w') h4 => hQ.out a' w' ⟨va, h1, h2, h3, h4⟩
              have r7 : gs 106 = .tuple #[.agg #[.int .i64 ke, .string se, .string te, .string re, .string ve], xv] := hR 7 (hdeps ⟨7, .data⟩ (by simp) rfl)
              unfold frSg
              go_wp2_with fail
              exact HQ _ (.agg #[.int .i64 ke, .string se, .string te, .string re, .string ve]) _ (by simp only [frSg, upd1, r7, Nat.reduceEqDiff, reduceIte]) trivial rfl hC
            · have HQ := fun (a' : Act) (va : Value) (w' : World) (h1 : a' = frSg q1 l.length cp1 s s.size jb sb qo R.ok.length co gr cr w4.heap.size had S2.L.length c6 y0 y1 y2 y3 y4 g20 g o k u4 u104 u105 u116 u117 u118 u119 u120 u121 u122 u123 u124 u125 u126 u127 u128 u129 u130 u131 u132 u133 u134 u135 u136 u137 u138 u139 u140 u141 u142 u143 u144 u145 (upd1 gs 115 va)) h2 (h3 : laysSg sb vb S2.L.length c6 g o k q0 u0 g0 p0 b0 ke se te re ve xv 9 va w') h4 => hQ.out a' w' ⟨va, h1, h2, h3, h4⟩
              have r7 : gs 106 = .tuple #[.agg #[.int .i64 ke, .string se, .string te, .string re, .string ve], xv] := hR 7 (hdeps ⟨7, .data⟩ (by simp) rfl)
              unfold frSg
              go_wp2_with fail
              exact HQ _ (xv) _ (by simp only [frSg, upd1, r7, Nat.reduceEqDiff, reduceIte]) trivial rfl hC
            · have HQ := fun (a' : Act) (va : Value) (w' : World) (h1 : a' = frSg q1 l.length cp1 s s.size jb sb qo R.ok.length co gr cr w4.heap.size had S2.L.length c6 y0 y1 y2 y3 y4 g20 g o k u4 u104 u105 u116 u117 u118 u119 u120 u121 u122 u123 u124 u125 u126 u127 u128 u129 u130 u131 u132 u133 u134 u135 u136 u137 u138 u139 u140 u141 u142 u143 u144 u145 (upd1 gs 16 va)) h2 (h3 : laysSg sb vb S2.L.length c6 g o k q0 u0 g0 p0 b0 ke se te re ve xv 10 va w') h4 => hQ.out a' w' ⟨va, h1, h2, h3, h4⟩
              unfold frSg
              go_wp2_with fail
              exact HQ _ (.pointer (some ⟨w1.heap.size, 0, none⟩)) _ (by simp only [frSg, upd1, Nat.reduceEqDiff, reduceIte]) trivial ⟨_, rfl⟩ (newA.made hC hLi)
            · have HQ := fun (a' : Act) (va : Value) (w' : World) (h1 : a' = frSg q1 l.length cp1 s s.size jb sb qo R.ok.length co gr cr w4.heap.size had S2.L.length c6 y0 y1 y2 y3 y4 g20 g o k u4 u104 u105 u116 u117 u118 u119 u120 u121 u122 u123 u124 u125 u126 u127 u128 u129 u130 u131 u132 u133 u134 u135 u136 u137 u138 u139 u140 u141 u142 u143 u144 u145 (upd1 gs 1011 va)) h2 (h3 : laysSg sb vb S2.L.length c6 g o k q0 u0 g0 p0 b0 ke se te re ve xv 11 va w') h4 => hQ.out a' w' ⟨va, h1, h2, h3, h4⟩
              have r8 : gs 114 = .agg #[.int .i64 ke, .string se, .string te, .string re, .string ve] := hR 8 (hdeps ⟨8, .data⟩ (by simp) rfl)
              have r10 := hR 10 (hdeps ⟨10, .data⟩ (by simp) rfl)
              obtain ⟨p, hp⟩ := r10
              change gs 16 = _ at hp
              have l10 : L 10 = true := hdeps ⟨10, .data⟩ (by simp) rfl
              obtain ⟨p', hp', hpl, hpb⟩ := hC.2.2 l10
              rw [hp] at hp'
              injection hp' with hp'
              injection hp' with hp'
              injection hp' with hp'
              subst hp'
              rw [show L 11 = false from hLi] at hpb
              have hpb : w1.heap[p]? = some (.cells #[.int .i64 0, .string ⟨#[]⟩, .string ⟨#[]⟩, .string ⟨#[]⟩, .string ⟨#[]⟩] 51 (0, 0)) := hpb
              have lw1 := lt_of_heap hpb
              have ff := free_of_heap hpb
              have HH := Lib.hid (setEvAt hpb (.int .i64 ke) (.string se) (.string te) (.string re) (.string ve))
              obtain ⟨y0, y1, y2, y3, y4⟩ := ev_cells hpb
              clear hpb
              unfold frSg
              go_wp2_with fail
              exact HQ _ undef _ (by simp only [frSg, upd1, r8, hp, Nat.reduceEqDiff, reduceIte]) trivial trivial (newA.put hC l10 hp HH.out.1 HH.out.2)
            · have HQ := fun (a' : Act) (va : Value) (w' : World) (h1 : a' = frSg q1 l.length cp1 s s.size jb sb qo R.ok.length co gr cr w4.heap.size had S2.L.length c6 y0 y1 y2 y3 y4 g20 g o k u4 u104 u105 u116 u117 u118 u119 u120 u121 u122 u123 u124 u125 u126 u127 u128 u129 u130 u131 u132 u133 u134 u135 u136 u137 u138 u139 u140 u141 u142 u143 u144 u145 (upd1 gs 17 va)) h2 (h3 : laysSg sb vb S2.L.length c6 g o k q0 u0 g0 p0 b0 ke se te re ve xv 12 va w') h4 => hQ.out a' w' ⟨va, h1, h2, h3, h4⟩
              have r9 : gs 115 = xv := hR 9 (hdeps ⟨9, .data⟩ (by simp) rfl)
              unfold frSg
              go_wp2_with fail
              exact HQ _ (xv) _ (by simp only [frSg, upd1, r9, Nat.reduceEqDiff, reduceIte]) trivial rfl hC
          intro L25 g25 w25 hall hR hC
          obtain ⟨p16, hp16, hpl, hpb⟩ := hC.2.2 (hall 10 (by decide))
          rw [hall 11 (by decide), if_pos rfl] at hpb
          have EA := Lib.hid hpb
          have s17 : g25 17 = xv := hR 12 (by decide)
          have XA := Lib.hid (ext_trans XX.out (ext_of hC.1))
          clear hC hall hR hpb hpl RQ SX FO XX
          unfold frSg
          rw [hp16, s17]
          clear hp16 s17
          generalize w25 = WA at EA XA ⊢
          cases hlo : lostR S2.many S2.has ⟨q0, u0, g0, p0, b0⟩ with
          | true =>
            obtain rfl : errV 8 = xv := by have := HXV.out; rw [hlo, if_pos rfl] at this; exact this
            have hee := HEE.out
            rw [hlo, if_pos rfl] at hee
            unfold zeroE at hee
            injection hee with h1 h2 h3 h4 h5
            subst h1 h2 h3 h4 h5
            by_cases hs : txt s0 = txt s
            · by_cases hk3 : k0 = 3
              ·
                have hsb : (s0.toList == s.toList) = true := by rw [← txt_is]; exact decide_eq_true hs
                have hk3b : (k0 != 3) = false := by simp [hk3]
                clear TO TL3 HEE HXV hs hk3
                unfold errV
                have bx := ext_iff.1 XA.out
                have JBA := Lib.hid ((bx.block _ (lt_of_heap J20.out)).trans J20.out)
                have jc := cell1' JBA.out
                have jl := lt_of_heap JBA.out
                have ly := lt_of_heap EA.out
                obtain ⟨z0, z1, z2, z3, z4⟩ := ev_cells EA.out
                have EOA := EO.out.at bx (Nat.le_refl _)
                obtain ⟨go', oo', rfl, hgo, o0, o1, o2, o3, o4⟩ := EOA.row he
                dsimp only at o0 o1 o2 o3 o4
                clear bx EOA
                go_wp2_with fail
                refine wp_region_ext (by kernel_rfl) (by kernel_rfl) ?_
                repeat (go_big_quiet_step (fail))
                refine wpQuiet_nil ?_
                rintro _ ⟨y, rfl⟩
                have XB := Lib.hid (ext_trans XA.out ⟨y, rfl⟩)
                have EB := Lib.hid (((ext_iff.1 ⟨y, rfl⟩ : Below WA.heap.size WA (ext WA y)).block _ (lt_of_heap EA.out)).trans EA.out)
                generalize ext WA y = WB at XB EB ⊢
                clear XA EA jc jl ly z0 z1 z2 z3 z4 hgo o0 o1 o2 o3 o4 JBA
                have bx := ext_iff.1 XB.out
                have JBA := Lib.hid ((bx.block _ (lt_of_heap J20.out)).trans J20.out)
                have jc := cell1' JBA.out
                have jl := lt_of_heap JBA.out
                have ly := lt_of_heap EB.out
                obtain ⟨z0, z1, z2, z3, z4⟩ := ev_cells EB.out
                have EOA := EO.out.at bx (Nat.le_refl _)
                obtain ⟨gx, ox, hqo, hgo, o0, o1, o2, o3, o4⟩ := EOA.row he
                simp only [Option.some.injEq, Addr.mk.injEq, and_true] at hqo
                obtain ⟨rfl, rfl⟩ := hqo
                dsimp only at o0 o1 o2 o3 o4
                clear bx EOA
                go_wp2_with fail
                refine wp_region_ext (by kernel_rfl) (by kernel_rfl) ?_
                repeat (go_big_quiet_step (fail))
                refine wpQuiet_nil ?_
                rintro _ ⟨y, rfl⟩
                have XD := Lib.hid (ext_trans XB.out ⟨y, rfl⟩)
                have ED := Lib.hid (((ext_iff.1 ⟨y, rfl⟩ : Below WB.heap.size WB (ext WB y)).block _ (lt_of_heap EB.out)).trans EB.out)
                generalize ext WB y = WD at XD ED ⊢
                clear XB EB ED jc jl ly z0 z1 z2 z3 z4 hgo o0 o1 o2 o3 o4 JBA
                go_wp2_with fail
                go_roundw
                case rel => exact ⟨k + 1, hlt, by go_num, XD⟩
                case measure => simp [intOf]; omega
              ·
                have hsb : (s0.toList == s.toList) = true := by rw [← txt_is]; exact decide_eq_true hs
                have hk3b : (k0 != 3) = true := by simp [hk3]
                clear TO TL3 HEE HXV hs hk3
                unfold errV
                have bx := ext_iff.1 XA.out
                have JBA := Lib.hid ((bx.block _ (lt_of_heap J20.out)).trans J20.out)
                have jc := cell1' JBA.out
                have jl := lt_of_heap JBA.out
                have ly := lt_of_heap EA.out
                obtain ⟨z0, z1, z2, z3, z4⟩ := ev_cells EA.out
                have EOA := EO.out.at bx (Nat.le_refl _)
                obtain ⟨go', oo', rfl, hgo, o0, o1, o2, o3, o4⟩ := EOA.row he
                dsimp only at o0 o1 o2 o3 o4
                clear bx EOA
                have TE := fun y => tell_any (.iface 65 (.int .i64 8)) (.no 8) (ext WA y) (GV.out.ext (ext_trans XA.out ⟨y, rfl⟩)).err
                rw [show errNum (.iface 65 (.int .i64 8)) = 8 from rfl] at TE
                go_wp2_with fail
                refine wp_region_ext (by kernel_rfl) (by kernel_rfl) ?_
                repeat (go_big_quiet_step ((go_at_call 30; refine (TE _).mono ?_; rintro _ _ ⟨rfl, hx⟩; exact ⟨rfl, ext_trans ⟨_, rfl⟩ hx⟩)))
                refine wpQuiet_nil ?_
                rintro _ ⟨y, rfl⟩
                have XB := Lib.hid (ext_trans XA.out ⟨y, rfl⟩)
                have EB := Lib.hid (((ext_iff.1 ⟨y, rfl⟩ : Below WA.heap.size WA (ext WA y)).block _ (lt_of_heap EA.out)).trans EA.out)
                generalize ext WA y = WB at XB EB ⊢
                clear XA EA jc jl ly z0 z1 z2 z3 z4 hgo o0 o1 o2 o3 o4 JBA TE
                have bx := ext_iff.1 XB.out
                have JBA := Lib.hid ((bx.block _ (lt_of_heap J20.out)).trans J20.out)
                have jc := cell1' JBA.out
                have jl := lt_of_heap JBA.out
                have ly := lt_of_heap EB.out
                obtain ⟨z0, z1, z2, z3, z4⟩ := ev_cells EB.out
                have EOA := EO.out.at bx (Nat.le_refl _)
                obtain ⟨gx, ox, hqo, hgo, o0, o1, o2, o3, o4⟩ := EOA.row he
                simp only [Option.some.injEq, Addr.mk.injEq, and_true] at hqo
                obtain ⟨rfl, rfl⟩ := hqo
                dsimp only at o0 o1 o2 o3 o4
                clear bx EOA
                go_wp2_with fail
                refine wp_region_ext (by kernel_rfl) (by kernel_rfl) ?_
                repeat (go_big_quiet_step (fail))
                refine wpQuiet_nil ?_
                rintro _ ⟨y, rfl⟩
                have XD := Lib.hid (ext_trans XB.out ⟨y, rfl⟩)
                have ED := Lib.hid (((ext_iff.1 ⟨y, rfl⟩ : Below WB.heap.size WB (ext WB y)).block _ (lt_of_heap EB.out)).trans EB.out)
                generalize ext WB y = WD at XD ED ⊢
                clear XB EB ED jc jl ly z0 z1 z2 z3 z4 hgo o0 o1 o2 o3 o4 JBA
                go_wp2_with fail
                go_roundw
                case rel => exact ⟨k + 1, hlt, by go_num, XD⟩
                case measure => simp [intOf]; omega
            ·
              have hsb : (s0.toList == s.toList) = false := by rw [← txt_is]; exact decide_eq_false hs
              clear TO TL3 HEE HXV hs
              unfold errV
              have bx := ext_iff.1 XA.out
              have JBA := Lib.hid ((bx.block _ (lt_of_heap J20.out)).trans J20.out)
              have jc := cell1' JBA.out
              have jl := lt_of_heap JBA.out
              have ly := lt_of_heap EA.out
              obtain ⟨z0, z1, z2, z3, z4⟩ := ev_cells EA.out
              have EOA := EO.out.at bx (Nat.le_refl _)
              obtain ⟨go', oo', rfl, hgo, o0, o1, o2, o3, o4⟩ := EOA.row he
              dsimp only at o0 o1 o2 o3 o4
              clear bx EOA
              go_wp2_with fail
              refine wp_region_ext (by kernel_rfl) (by kernel_rfl) ?_
              repeat (go_big_quiet_step (fail))
              refine wpQuiet_nil ?_
              rintro _ ⟨y, rfl⟩
              have XB := Lib.hid (ext_trans XA.out ⟨y, rfl⟩)
              have EB := Lib.hid (((ext_iff.1 ⟨y, rfl⟩ : Below WA.heap.size WA (ext WA y)).block _ (lt_of_heap EA.out)).trans EA.out)
              generalize ext WA y = WB at XB EB ⊢
              clear XA EA jc jl ly z0 z1 z2 z3 z4 hgo o0 o1 o2 o3 o4 JBA
              have bx := ext_iff.1 XB.out
              have JBA := Lib.hid ((bx.block _ (lt_of_heap J20.out)).trans J20.out)
              have jc := cell1' JBA.out
              have jl := lt_of_heap JBA.out
              have ly := lt_of_heap EB.out
              obtain ⟨z0, z1, z2, z3, z4⟩ := ev_cells EB.out
              have EOA := EO.out.at bx (Nat.le_refl _)
              obtain ⟨gx, ox, hqo, hgo, o0, o1, o2, o3, o4⟩ := EOA.row he
              simp only [Option.some.injEq, Addr.mk.injEq, and_true] at hqo
              obtain ⟨rfl, rfl⟩ := hqo
              dsimp only at o0 o1 o2 o3 o4
              clear bx EOA
              go_wp2_with fail
              refine wp_region_ext (by kernel_rfl) (by kernel_rfl) ?_
              repeat (go_big_quiet_step (fail))
              refine wpQuiet_nil ?_
              rintro _ ⟨y, rfl⟩
              have XD := Lib.hid (ext_trans XB.out ⟨y, rfl⟩)
              have ED := Lib.hid (((ext_iff.1 ⟨y, rfl⟩ : Below WB.heap.size WB (ext WB y)).block _ (lt_of_heap EB.out)).trans EB.out)
              generalize ext WB y = WD at XD ED ⊢
              clear XB EB ED jc jl ly z0 z1 z2 z3 z4 hgo o0 o1 o2 o3 o4 JBA
              go_wp2_with fail
              go_roundw
              case rel => exact ⟨k + 1, hlt, by go_num, XD⟩
              case measure => simp [intOf]; omega
          | false =>
            obtain rfl : Value.nilIface = xv := by have := HXV.out; rw [hlo, if_neg (by simp)] at this; exact this
            have hee := HEE.out
            rw [hlo, if_neg (by simp)] at hee
            injection hee with h1 h2 h3 h4 h5
            subst h1 h2 h3 h4 h5
            by_cases hs : txt s0 = txt s
            · have hk3 : k0 = 3 := Classical.byContradiction fun hn => by have := TL3.out hs hn; rw [hlo] at this; cases this
              have hsb : (s0.toList == s.toList) = true := by rw [← txt_is]; exact decide_eq_true hs
              have hk3b : (k0 != 3) = false := by simp [hk3]
              clear TO TL3 HEE HXV hs hk3
              have bx := ext_iff.1 XA.out
              have JBA := Lib.hid ((bx.block _ (lt_of_heap J20.out)).trans J20.out)
              have jc := cell1' JBA.out
              have jl := lt_of_heap JBA.out
              have ly := lt_of_heap EA.out
              obtain ⟨z0, z1, z2, z3, z4⟩ := ev_cells EA.out
              have EOA := EO.out.at bx (Nat.le_refl _)
              obtain ⟨go', oo', rfl, hgo, o0, o1, o2, o3, o4⟩ := EOA.row he
              dsimp only at o0 o1 o2 o3 o4
              clear bx EOA
              go_wp2_with fail
              refine wp_region_ext (by kernel_rfl) (by kernel_rfl) ?_
              repeat (go_big_quiet_step (fail))
              refine wpQuiet_nil ?_
              rintro _ ⟨y, rfl⟩
              have XB := Lib.hid (ext_trans XA.out ⟨y, rfl⟩)
              have EB := Lib.hid (((ext_iff.1 ⟨y, rfl⟩ : Below WA.heap.size WA (ext WA y)).block _ (lt_of_heap EA.out)).trans EA.out)
              generalize ext WA y = WB at XB EB ⊢
              clear XA EA jc jl ly z0 z1 z2 z3 z4 hgo o0 o1 o2 o3 o4 JBA
              have bx := ext_iff.1 XB.out
              have JBA := Lib.hid ((bx.block _ (lt_of_heap J20.out)).trans J20.out)
              have jc := cell1' JBA.out
              have jl := lt_of_heap JBA.out
              have ly := lt_of_heap EB.out
              obtain ⟨z0, z1, z2, z3, z4⟩ := ev_cells EB.out
              have EOA := EO.out.at bx (Nat.le_refl _)
              obtain ⟨gx, ox, hqo, hgo, o0, o1, o2, o3, o4⟩ := EOA.row he
              simp only [Option.some.injEq, Addr.mk.injEq, and_true] at hqo
              obtain ⟨rfl, rfl⟩ := hqo
              dsimp only at o0 o1 o2 o3 o4
              clear bx EOA
              go_wp2_with fail
              refine wp_region_ext (by kernel_rfl) (by kernel_rfl) ?_
              repeat (go_big_quiet_step (fail))
              refine wpQuiet_nil ?_
              rintro _ ⟨y, rfl⟩
              have XD := Lib.hid (ext_trans XB.out ⟨y, rfl⟩)
              have ED := Lib.hid (((ext_iff.1 ⟨y, rfl⟩ : Below WB.heap.size WB (ext WB y)).block _ (lt_of_heap EB.out)).trans EB.out)
              generalize ext WB y = WD at XD ED ⊢
              clear XB EB ED jc jl ly z0 z1 z2 z3 z4 hgo o0 o1 o2 o3 o4 JBA
              go_wp2_with fail
              go_roundw
              case rel => exact ⟨k + 1, hlt, by go_num, XD⟩
              case measure => simp [intOf]; omega
            ·
              have hsb : (s0.toList == s.toList) = false := by rw [← txt_is]; exact decide_eq_false hs
              clear TO TL3 HEE HXV hs
              have bx := ext_iff.1 XA.out
              have JBA := Lib.hid ((bx.block _ (lt_of_heap J20.out)).trans J20.out)
              have jc := cell1' JBA.out
              have jl := lt_of_heap JBA.out
              have ly := lt_of_heap EA.out
              obtain ⟨z0, z1, z2, z3, z4⟩ := ev_cells EA.out
              have EOA := EO.out.at bx (Nat.le_refl _)
              obtain ⟨go', oo', rfl, hgo, o0, o1, o2, o3, o4⟩ := EOA.row he
              dsimp only at o0 o1 o2 o3 o4
              clear bx EOA
              go_wp2_with fail
              refine wp_region_ext (by kernel_rfl) (by kernel_rfl) ?_
              repeat (go_big_quiet_step (fail))
              refine wpQuiet_nil ?_
              rintro _ ⟨y, rfl⟩
              have XB := Lib.hid (ext_trans XA.out ⟨y, rfl⟩)
              have EB := Lib.hid (((ext_iff.1 ⟨y, rfl⟩ : Below WA.heap.size WA (ext WA y)).block _ (lt_of_heap EA.out)).trans EA.out)
              generalize ext WA y = WB at XB EB ⊢
              clear XA EA jc jl ly z0 z1 z2 z3 z4 hgo o0 o1 o2 o3 o4 JBA
              have bx := ext_iff.1 XB.out
              have JBA := Lib.hid ((bx.block _ (lt_of_heap J20.out)).trans J20.out)
              have jc := cell1' JBA.out
              have jl := lt_of_heap JBA.out
              have ly := lt_of_heap EB.out
              obtain ⟨z0, z1, z2, z3, z4⟩ := ev_cells EB.out
              have EOA := EO.out.at bx (Nat.le_refl _)
              obtain ⟨gx, ox, hqo, hgo, o0, o1, o2, o3, o4⟩ := EOA.row he
              simp only [Option.some.injEq, Addr.mk.injEq, and_true] at hqo
              obtain ⟨rfl, rfl⟩ := hqo
              dsimp only at o0 o1 o2 o3 o4
              clear bx EOA
              go_wp2_with fail
              refine wp_region_ext (by kernel_rfl) (by kernel_rfl) ?_
              repeat (go_big_quiet_step (fail))
              refine wpQuiet_nil ?_
              rintro _ ⟨y, rfl⟩
              have XD := Lib.hid (ext_trans XB.out ⟨y, rfl⟩)
              have ED := Lib.hid (((ext_iff.1 ⟨y, rfl⟩ : Below WB.heap.size WB (ext WB y)).block _ (lt_of_heap EB.out)).trans EB.out)
              generalize ext WB y = WD at XD ED ⊢
              clear XB EB ED jc jl ly z0 z1 z2 z3 z4 hgo o0 o1 o2 o3 o4 JBA
              go_wp2_with fail
              go_roundw
              case rel => exact ⟨k + 1, hlt, by go_num, XD⟩
              case measure => simp [intOf]; omega
        · obtain rfl : k = R.ok.length := by omega
          have DE := Lib.hid (D20.out.ext XX.out)
          have hns : s.size ≤ 40 := by omega
          have DO2 := sdo_any (zzE s) wr V F' sb vb _ secS S2 DE.out.src (GF.out.ext XX.out) ⟨by show s.size ≤ _; omega, by show 2 ≤ _; omega, by show 2 ≤ _; omega⟩ (by show 0 ≤ _; omega) (by decide) (by omega) (by have := HMM.out; show S2.many s < _; omega) (by have := HMM.out; omega)
          have X21 := Lib.hid (ext_trans X2.out DE.out.st.ext)
          have J21 := ((ext_iff.1 X21.out).block _ (lt_of_heap JB.out)).trans JB.out
          have jc := cell1' J21
          have jl := lt_of_heap J21
          have HZG := Lib.hid (zzE_gen (sec := secS) HNO.out)
          have RQ := Lib.hid (recsAt_of RA20.out (fun k hk => (ext_iff.1 XX.out).block k hk) (ext_iff.1 XX.out).size)
          have QQ := Lib.hid (show ∀ a, q6 = some a → ¬ F' a.block ∧ a.block < wr.heap.size from fun a ha => ⟨(Q6.out a ha).1, Nat.lt_of_lt_of_le (Q6.out a ha).2 (ext_iff.1 XX.out).size⟩)
          clear J21 hns
          unfold DoPost at DO2
          rcases zzE_x (S := S2) GD.out.1 with hx0 | ⟨hx13, c, hcm, hck⟩
          · rw [hx0, if_pos rfl, if_pos rfl] at DO2
            generalize toldR secS S2.many S2.has S2.L (zzE s) = tr at DO2 HZG
            generalize doS secS S2 (zzE s) = S3 at DO2
            obtain ⟨t0, t1, t2, t3, t4⟩ := tr
            unfold zzE evV recV at DO2
            dsimp only at DO2
            go_wp2_with fail
            refine DO2.mono ?_
            rintro _ wn ⟨rfl, F2, hs5, hst5⟩
            have XN := Lib.hid (ext_trans X2.out (DE.out.turn hs5 hst5).st.ext)
            have JN := ((ext_iff.1 XN.out).block _ (lt_of_heap JB.out)).trans JB.out
            have RN := recsAt_same RQ.out (fun a ha => hst5.block _ (QQ.out a ha).2 (QQ.out a ha).1) hst5.size
            have XA := ext_alloc (.cells #[.int .i64 t0, .string t1, .int .i64 t2, .string t3, .string t4] 55) (ext_refl wn)
            have ba := ext_iff.1 XA
            have CF := sfR_any q6 c6 S2.L ⟨t0, t1, t2, t3, t4⟩ s jb wn.heap.size (wn.alloc (.cells #[.int .i64 t0, .string t1, .int .i64 t2, .string t3, .string t4] 55)) (by have := HMM.out; omega) ((ba.block _ (lt_of_heap JN)).trans JN) (heap_alloc_at wn _) (recsAt_of RN (fun k hk => ba.block k hk) ba.size) (fun r h1 h2 => by
              have h3 := GB.out r h1 h2
              have h4 : (⟨t0, t1, t2, t3, t4⟩ : Rec).gen = (S2.many s : Int) + 1 := HZG.out
              rw [h4]; omega)
            have XL := Lib.hid (ext_trans XN.out XA)
            clear hs5 hst5 JN RN XA ba DO2 jc jl
            go_wp2_with fail
            refine CF.mono ?_
            rintro _ wx ⟨rfl, hxx⟩
            have XM := Lib.hid (ext_trans XL.out hxx)
            clear CF hxx
            go_wp2_with fail
            go_ret
            exact ⟨rfl, ext_trans X0.out XM.out⟩
          · have hne : doX S2 (zzE s) ≠ 0 := by rw [hx13]; decide
            rw [if_neg hne, if_neg hne, hx13, doS_no hne] at DO2
            have ANY := Lib.hid (show (sortC S2.T).any zzB = true from by
              refine List.any_eq_true.2 ⟨c, sortC_mem.2 hcm, ?_⟩
              unfold ck ek zzE at hck
              injection hck with h1 h2
              unfold zzB
              rw [ByteArray.toList_eq, ByteArray.toList_eq]
              have h1' : c.table.data.toList = [122, 122] := h1
              have h2' : c.row.data.toList = [122, 122] := h2
              rw [h1', h2']
              rfl)
            have hTT := TL2.out
            clear hcm hck hx13 hne
            unfold zzE evV recV zeroR errV at DO2
            dsimp only at DO2
            go_wp2_with fail
            refine DO2.mono ?_
            rintro _ wn ⟨rfl, F2, hs5, hst5⟩
            have XA := ext_alloc (.cells #[.int .i64 0, .string ⟨#[]⟩, .int .i64 0, .string ⟨#[]⟩, .string ⟨#[]⟩] 55) (ext_refl wn)
            have DT := Lib.hid ((DE.out.turn hs5 hst5).ext XA)
            clear hs5 hst5 XA DO2 jc jl
            go_wp2_with fail
            refine (scells_any _ V F2 sb vb _ secS _ DT.out.src (by omega)).mono ?_
            rintro _ wo ⟨vo', rfl, hoo, _, hbo⟩
            obtain ⟨qz, cz, rfl⟩ := rows_shape hoo
            have CF := sfC_any qz cz (sortC S2.T) wo (by rw [sortC_len]; omega) (cellsIn_of hoo).1
            rw [ANY.out] at CF
            have XL := Lib.hid (ext_trans X2.out (ext_trans DT.out.st.ext (ext_of hbo)))
            clear hoo hbo
            go_wp2_with fail
            refine CF.mono ?_
            rintro _ wx ⟨rfl, hxx⟩
            have XM := Lib.hid (ext_trans XL.out hxx)
            clear CF hxx
            go_wp2_with fail
            go_ret
            exact ⟨rfl, ext_trans X0.out XM.out⟩
    · rw [if_neg hX] at DO
      have RF := Lib.hid (RFU.out hX)
      generalize doX R.S (goneE s) = xx at DO
      generalize doS secS R.S (goneE s) = S2 at DO
      clear hX
      unfold errV at DO
      go_wp2_with fail
      refine DO.mono ?_
      rintro _ w4 ⟨rfl, F', hs4, hst4⟩
      have D4 := Lib.hid ((D3.out.turn hs4 hst4).ext (ext_alloc (.cells #[.int .i64 y0, .string y1, .int .i64 y2, .string y3, .string y4] 55) (ext_refl w4)))
      clear hs4 hst4 DO D3 SF jc3 jl3
      have X4 := Lib.hid (ext_trans X2.out D4.out.st.ext)
      have J4 := Lib.hid (((ext_iff.1 X4.out).block _ (lt_of_heap JB.out)).trans JB.out)
      have CE := sfE_any qo co R.ok s jb _ J4.out (evsAt_owned D4.out.oks) (by have := OKL.out; omega)
      generalize hhad : (R.ok.any fun e => decide (txt e.subject = txt s)) = had at CE RF
      have HHAD := Lib.hid hhad
      clear hhad
      go_wp2_with fail
      refine CE.mono ?_
      rintro _ w5 ⟨rfl, hx5⟩
      have D5 := Lib.hid (D4.out.ext hx5)
      have X5 := Lib.hid (ext_trans X4.out hx5)
      have J5 := Lib.hid (((ext_iff.1 hx5).block _ (lt_of_heap J4.out)).trans J4.out)
      have EO5 := Lib.hid (evsAt_owned D5.out.oks)
      have hok30 : R.ok.length ≤ 30 := OKL.out
      clear CE hx5 D4 X4 J4 D5
      go_wp2_with fail
      go_loopw [11, 12] (fun zv iv wr => ∃ (i : Nat) (z : Int), i ≤ R.ok.length ∧ zv = .int .i64 z ∧ iv = .int .i64 i ∧ Hid (lastAt s R.ok i z) ∧ Hid (∃ y, wr = ext w5 y)) (fun _ iv _ => R.ok.length - (intOf iv).toNat)
      case atStart => exact ⟨0, -1, Nat.zero_le _, rfl, rfl, Lib.hid (.inl ⟨rfl, rfl⟩), Lib.hid (ext_refl w5)⟩
      case round =>
        obtain ⟨i, z, hi, rfl, rfl, LA, XX⟩ := hrel
        by_cases hlt : i < R.ok.length
        · have hlt' : (i : Int) < R.ok.length := by omega
          have he := List.getElem?_eq_getElem hlt
          have LN := Lib.hid (LA.out.next he)
          have bx := ext_iff.1 XX.out
          have JX := (bx.block _ (lt_of_heap J5.out)).trans J5.out
          have jc := cell1' JX
          have jl := lt_of_heap JX
          obtain ⟨go, oo, rfl, hgo, o0, o1, o2, o3, o4⟩ := (EO5.out.at bx (Nat.le_refl _)).row he
          generalize R.ok[i] = e at he LN o0 o1 o2 o3 o4
          clear bx JX LA
          by_cases hs : txt e.subject = txt s
          · have hsb : (e.subject.toList == s.toList) = true := by rw [← txt_is]; exact decide_eq_true hs
            go_wp2_with fail
            refine wp_region_ext (by kernel_rfl) (by kernel_rfl) ?_
            repeat (go_big_quiet_step (fail))
            refine wpQuiet_nil ?_
            rintro _ ⟨y, rfl⟩
            have X6 := Lib.hid (ext_trans XX.out ⟨y, rfl⟩)
            generalize ext wr y = w6 at X6 ⊢
            clear jc jl hgo o0 o1 o2 o3 o4 XX
            go_wp2_with fail
            go_roundw
            case rel => exact ⟨i + 1, i, hlt, rfl, by go_num, Lib.hid (LN.out.1 hs), X6⟩
            case measure => simp [intOf]; omega
          · have hsb : (e.subject.toList == s.toList) = false := by rw [← txt_is]; exact decide_eq_false hs
            go_wp2_with fail
            refine wp_region_ext (by kernel_rfl) (by kernel_rfl) ?_
            repeat (go_big_quiet_step (fail))
            refine wpQuiet_nil ?_
            rintro _ ⟨y, rfl⟩
            have X6 := Lib.hid (ext_trans XX.out ⟨y, rfl⟩)
            generalize ext wr y = w6 at X6 ⊢
            clear jc jl hgo o0 o1 o2 o3 o4 XX
            go_wp2_with fail
            go_roundw
            case rel => exact ⟨i + 1, z, hlt, rfl, by go_num, Lib.hid (LN.out.2 hs), X6⟩
            case measure => simp [intOf]; omega
        · obtain rfl : i = R.ok.length := by omega
          have XF := Lib.hid (ext_trans X5.out XX.out)
          cases had with
          | false =>
            go_wp2_with fail
            go_ret
            exact ⟨rfl, ext_trans X0.out XF.out⟩
          | true =>
            have LQ := LA.out
            unfold lastAt at LQ
            rw [List.take_length] at LQ
            have h3 : lastK s R.ok = some 3 := by
              rcases RF.out with h | h
              · cases h
              · exact h
            rw [h3] at LQ
            rcases LQ with ⟨_, h4⟩ | ⟨n, e, rfl, hn, he, h4⟩
            · cases h4
            · injection h4 with h4
              have bx := ext_iff.1 XX.out
              obtain ⟨go, oo, rfl, hgo, o0, o1, o2, o3, o4⟩ := (EO5.out.at bx (Nat.le_refl _)).row he
              rw [← h4] at o0
              have hn' : (n : Int) < R.ok.length := by omega
              clear bx o1 o2 o3 o4 he h4
              go_wp2_with fail
              go_ret
              exact ⟨rfl, ext_trans X0.out XF.out⟩
theorem sourceForgets_law (q1 : Option Addr) (cp1 : Nat) (l : List Ev) (s : ByteArray) (w : World) (hG : Glob w none0) (hl : l.length ≤ 9223372036854775807) (_ : l.length ≤ cp1) (h1 : evsAt w q1 l) (_ : q1 = none → l.length = 0 ∧ cp1 = 0) :
    Calls Tryz.prog 7 #[.slice q1 l.length cp1, .string s] w (Res true w) := sourceForgets_any q1 cp1 l s w hl h1 hG
end Go.Proofs.YtgckpfeeioljeaaGreatDoor
namespace Go.Proofs.YtgckpfeeioljeaaGreatDoor
open Go.RowKit

theorem own : ownKnob Tryz.prog.godebug = none := by kernel_rfl
theorem gRounds : Tryz.prog.globalNamed "oubliette/sum.rounds" = some 2 := by kernel_rfl
theorem tRounds : (Tryz.prog.globals[2]?).map (·.type) = some 219 := by kernel_rfl
def roundsZ : List Int := roundsL.map fun n : Nat => (n : Int)
theorem rounds_data : (Rows.laid_oubliette_sum_rounds : DataW Unit) = Lib.tabData .u32 roundsZ := rfl
theorem rounds_at : (List.range 64).all (fun i => roundsZ.getD i 0 == val (K256 i)) = true := by decide +kernel
/-- The table stands first on the list. -/
theorem Rounds_of_laid {rest : List (String × DataW Unit)} {W : World} (h : laidMet Tryz.prog (("oubliette/sum.rounds", Rows.laid_oubliette_sum_rounds) :: rest) W) : Rounds W := by
  rw [rounds_data] at h
  have hT := Lib.tabIs_of_head gRounds tRounds Tryz.underlying219 Tryz.underlying166 (by kernel_rfl) (by kernel_rfl) h
  have hc : ∀ i, i < 64 → W.cell? ⟨2, i, none⟩ = some (.int .u32 (val (K256 i))) := fun i hi => by
    have h1 := hT.cell gRounds i (by simpa [roundsZ, roundsL] using hi)
    have h2 := List.all_eq_true.1 rounds_at i (List.mem_range.2 hi)
    rw [h1, eq_of_beq h2]
  exact ⟨block_lt_of_cell (hc 0 (by omega)), hc⟩

theorem rtypeT : (Tryz.prog.cutTypes.find? (·.1 == "internal/reflectlite.rtype")).map (·.2) = some 173 := by kernel_rfl
theorem gErr : Tryz.prog.globalNamed "errors.errorType" = some 1 := by kernel_rfl
theorem errRow : ((List.range 273).filter fun t => Tryz.prog.rowNamed t [101, 114, 114, 111, 114]) = [47] := by kernel_rfl
theorem typesSize : Tryz.prog.types.size = 273 := by kernel_rfl
/-- The handle of the type error. -/
theorem ErrT_of_met {W : World} (h : handlesMet Tryz.prog [("errors.errorType", Rows.laid_errors_errorType)] W) : ErrT W := by
  obtain ⟨name, u, ty, e1, e2, e3, e4, e5⟩ := h _ (List.mem_singleton.2 rfl)
  have en : name = [101, 114, 114, 111, 114] := (Option.some.inj e1).symm
  subst en
  obtain rfl := Option.some.inj (rtypeT.symm.trans e2)
  have hm : ty ∈ (List.range 273).filter fun t => Tryz.prog.rowNamed t [101, 114, 114, 111, 114] := List.mem_filter.2 ⟨List.mem_range.2 (by rw [← typesSize]; exact e3), e4⟩
  rw [errRow] at hm
  obtain rfl := List.mem_singleton.1 hm
  have hh : typeHandle Tryz.prog 47 = rt 47 := by kernel_rfl
  rw [hh] at e5
  have := World.var?_cell gErr e5 0
  simpa [ErrT] using this
theorem ErrT_of_laid {W : World} (h : laidMetH Tryz.prog [("errors.errorType", Rows.laid_errors_errorType)] W) : ErrT W := by
  have h' : laidMet Tryz.prog [] W ∧ handlesMet Tryz.prog [("errors.errorType", Rows.laid_errors_errorType)] W := h
  exact ErrT_of_met h'.2
theorem both_of_laidH {W : World} (h : laidMetH Tryz.prog [("oubliette/sum.rounds", Rows.laid_oubliette_sum_rounds), ("errors.errorType", Rows.laid_errors_errorType)] W) :
    laidMet Tryz.prog [("oubliette/sum.rounds", Rows.laid_oubliette_sum_rounds)] W ∧ handlesMet Tryz.prog [("errors.errorType", Rows.laid_errors_errorType)] W := h
theorem Rounds_of_laidH {W : World} (h : laidMetH Tryz.prog [("oubliette/sum.rounds", Rows.laid_oubliette_sum_rounds), ("errors.errorType", Rows.laid_errors_errorType)] W) : Rounds W := Rounds_of_laid (both_of_laidH h).1
theorem ErrT_of_laidH {W : World} (h : laidMetH Tryz.prog [("oubliette/sum.rounds", Rows.laid_oubliette_sum_rounds), ("errors.errorType", Rows.laid_errors_errorType)] W) : ErrT W := ErrT_of_met (both_of_laidH h).2
end Go.Proofs.YtgckpfeeioljeaaGreatDoor
namespace Go.Proofs.YtgckpfeeioljeaaGreatDoor
open Go.ChangeShapes Go.WideShapes Go.ChangeAt Go.RowKit

theorem laidOut : laidOutB Tryz.prog = true := by kernel_rfl
theorem byte_int {n : Int} (h : (Lit.int .u8 n).wf = true) : ∃ b : UInt8, n = (b.toNat : Int) := by
  have h2 : 0 ≤ n ∧ n ≤ 255 := by
    simp only [Lit.wf, Bool.and_eq_true, decide_eq_true_eq] at h
    exact ⟨h.1, h.2⟩
  refine ⟨UInt8.ofNat n.toNat, ?_⟩
  rw [UInt8.toNat_ofNat']; omega
/-- A slice of texts is a list of them. -/
theorem texts_of_Trod {H : Type} {enc : TypeId × Value → H} {W : World} {q : Option Addr} {l c : Nat} {d : DataW H} {p : List MemPlace} (h : DataW.Trod enc Tryz.prog W 0 (fun _ => true) true 70 (.slice q l c) d p) :
    ∃ ps : List ByteArray, l = ps.length ∧ textsAt W q ps := by
  obtain ⟨fuel, hf⟩ := h
  rcases open_strings Tryz.underlying70 Tryz.underlying9 (by kernel_rfl) hf with ⟨hcs, hx⟩ | ⟨a, len', cap', ss, hcs, _, hl, hm, hz, hx, hcell, hwz⟩
  · simp [Value.cells] at hcs
    obtain ⟨rfl, rfl, rfl⟩ := hcs
    exact ⟨[], rfl, fun j s hj => by simp at hj⟩
  · simp [Value.cells] at hcs
    obtain ⟨rfl, rfl, rfl⟩ := hcs
    simp only [if_true] at hz
    refine ⟨ss.take l, by rw [List.length_take]; omega, ?_⟩
    intro j s hj
    have hjl : j < l := by
      have := (List.getElem?_eq_some_iff.1 hj).1
      rw [List.length_take] at this; omega
    rw [List.getElem?_take_of_lt hjl] at hj
    obtain ⟨b, off, spot⟩ := a
    have hspot : spot = none := by simpa [Addr.add] using World.cell?_spot (hcell 0 (by omega))
    subst hspot
    have hc := hcell j (by omega)
    rw [add_flat', List.getD_eq_getElem?_getD, hj] at hc
    exact ⟨b, off, rfl, block_lt_of_cell hc, hc⟩
end Go.Proofs.YtgckpfeeioljeaaGreatDoor
