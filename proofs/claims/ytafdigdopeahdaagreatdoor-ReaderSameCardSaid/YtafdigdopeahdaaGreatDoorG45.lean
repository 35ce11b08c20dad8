/- oubliettekeep.ReaderSame (the walk). · What the rows' condition says of the package-level variables, in the walks' words. · Arguments as data: slices of texts, bytes, in the walks' words. -/
import Derived.Test.YtafdigdopeahdaaGreatDoorProg
import Derived.Test.YtafdigdopeahdaaGreatDoorG43
import Derived.Test.YtafdigdopeahdaaGreatDoorG44
import Derived.Test.YtafdigdopeahdaaGreatDoorRows
import Derived.Test.YtafdigdopeahdaaGreatDoorG11
import Derived.Lib.LaidTab
import Derived.Stop.LaidErr
import Derived.LaidMore
import Derived.MakeChecks
import Derived.Test.YtafdigdopeahdaaGreatDoorG23
import Derived.LaidHandle
import Derived.Test.YtafdigdopeahdaaGreatDoorG13
import Derived.SliceStrings
import Derived.Carry
import Derived.ProofKit
namespace Go.Proofs.YtafdigdopeahdaaGreatDoor
open Go.RowKit Go.Shelf

set_option maxRecDepth 100000 in
set_option maxHeartbeats 8000000 in
theorem readerSame_any (q : Option Addr) (cp : Nat) (l : List Ev) (w : World) (hl : l.length ≤ 9223372036854775807) (h1 : evsAt w q l) (hG : Glob w none0) :
    Calls Tryz.prog 3 #[.slice q l.length cp] w (Res true w) := by
  have F1 := few_any q cp l w hl h1
  have S1 := Lib.hid (fun h : fewB l = true => few_sizes h)
  have E1 := Lib.hid h1
  have GG := Lib.hid hG
  clear h1 hG
  go_enter Tryz.func3, Tryz.ntmps3
  go_wp2_with fail
  refine F1.mono ?_
  rintro _ w1 ⟨rfl, hx⟩
  have X1 := Lib.hid hx
  clear hx F1
  generalize fewB l = few1 at S1
  cases few1 with
  | false =>
    go_wp2_with fail
    go_ret
    exact ⟨rfl, X1.out⟩
  | true =>
    obtain ⟨hl30, hls⟩ := S1.out (by trivial)
    have HLS := Lib.hid hls
    clear S1 hls
    go_wp2_with fail
    refine (fed_any w1 (GG.out.ext X1.out)).mono ?_
    rintro _ w2 ⟨rfl, hx⟩
    have X2 := Lib.hid (ext_trans X1.out hx)
    clear hx X1
    go_wp2_with fail
    refine (applied_any w2).mono ?_
    rintro _ w3 ⟨rfl, hx⟩
    have X3 := Lib.hid (ext_trans X2.out hx)
    clear hx X2
    have SN := snew_any secS w3 rfl
    unfold secS at SN
    go_wp2_with fail
    refine SN.mono ?_
    rintro _ w4 ⟨sb, vb, V, F, rfl, hs, hst⟩
    have D4 := Lib.hid (show srcIn w4 V F sb vb 0 secS R0.S from hs)
    have T4 := Lib.hid hst
    clear hs hst SN
    go_wp2_with fail
    refine (svault_any w4 V F sb vb 0 secS S0 D4.out).mono ?_
    rintro _ w5 ⟨rfl, rfl⟩
    go_wp2_with fail
    refine (rnew_any vb w4).mono ?_
    rintro _ w6 ⟨rb, D, rfl, hr, hst6, hx6⟩
    have TW := Lib.hid (show twoIn w3 w6 V F D sb vb rb 0 0 R0.S (rdSame R0) from by
      refine ⟨(T4.out.trans ((step.of_ext F hx6).more (F' := fun i => F i ∨ D i) (fun i hi => hi.elim .inl (fun h => .inr (hst6.new h))))), D4.out.ext hx6, hr, fun i h1 h2 => ?_⟩
      have := (hst6.new h2).1; have := D4.out.lt i h1; omega)
    clear D4 T4 hr hst6 hx6
    go_wp2_with fail
    go_loopw [6] (fun iv wr => ∃ (k : Nat) (F D : Blk), k ≤ l.length ∧ iv = .int .i64 k ∧ Hid (twoIn w3 wr V F D sb vb rb (3 * k) k (runM secS (l.take k)).S (rdSame (runM secS (l.take k))))) (fun iv _ => l.length - (intOf iv).toNat)
    case atStart => exact ⟨0, _, _, Nat.zero_le _, rfl, TW⟩
    case round =>
      clear TW
      obtain ⟨k, F, D, hk, rfl, TW⟩ := hrel
      have X4 := Lib.hid (ext_trans X3.out TW.out.st.ext)
      by_cases hlt : k < l.length
      · have hx := List.getElem?_eq_getElem hlt
        have hz := HLS.out _ (List.getElem_mem hlt)
        have RT := Lib.hid (runM_take secS l k _ hx)
        have HRU := Lib.hid (runs secS (l.take k))
        have hB := ext_iff.1 X4.out
        obtain ⟨g, o, rfl, hg, e0, e1, e2, e3, e4⟩ := (E1.out.at hB (Nat.le_refl _)).row hx
        have ML := run_many_le l k
        have GW := Lib.hid ((GG.out.ext X3.out).step TW.out.st)
        have OKL := Lib.hid (show (runM secS (l.take k)).ok.length ≤ 60 from by have := ok_len secS (l.take k); rw [List.length_take] at this; omega)
        have DO := sdo_any _ wr V F sb vb (3 * k) secS (runM secS (l.take k)).S TW.out.src (GW.out.sub (fun _ hi => .inl hi)) ⟨hz.1, hz.2.1, hz.2.2.1⟩ hz.2.2.2 (by decide) (by omega) (by have := (ML l[k].subject).1; omega) (by have := (ML l[k].subject).2; omega)
        clear ML hz hB
        generalize hR : runM secS (l.take k) = R at DO TW RT OKL HRU
        generalize l[k] = x at hx RT DO e0 e1 e2 e3 e4
        clear hR hx
        unfold DoPost at DO
        have hlt' : (k : Int) < l.length := by omega
        by_cases hX : doX R.S x = 0
        · rw [if_pos hX, if_pos hX] at DO
          have SS := same_step HRU.out hX
          have RT2 := Lib.hid (show runM secS (l.take (k + 1)) = run1 secS R x from RT.out)
          have HS := Lib.hid (show (doS secS R.S x) = (run1 secS R x).S from by unfold run1; rw [if_pos hX])
          have HO := Lib.hid (HRU.out.step x)
          have TLS := Lib.hid (show (doS secS R.S x).T.length ≤ 9223372036854775807 from by rw [HS.out, HO.out.tab]; refine Nat.le_trans (tabN_len _ _) ?_; unfold run1; rw [if_pos hX]; have := OKL.out; simp; omega)
          have TLR := Lib.hid (show (rdSame (run1 secS R x)).T.length ≤ 9223372036854775807 from by show (run1 secS R x).S.T.length ≤ _; rw [← HS.out]; exact TLS.out)
          have TEQ := Lib.hid (show (rdSame (run1 secS R x)).T = (doS secS R.S x).T from by rw [HS.out]; rfl)
          generalize toldR secS R.S.many R.S.has R.S.L x = rr at DO SS
          have SSH := Lib.hid SS
          clear SS hX HRU RT
          obtain ⟨x0, x1, x2, x3, x4⟩ := x
          obtain ⟨q0, u0, g0, p0, b0⟩ := rr
          unfold evV recV at DO
          dsimp only at DO e0 e1 e2 e3 e4
          go_wp2_with fail
          refine DO.mono ?_
          rintro _ w7 ⟨rfl, F', hs7, hst7⟩
          have T7 := Lib.hid (TW.out.turn hs7 hst7)
          have T8 := Lib.hid (T7.out.ext (ext_alloc (.cells #[.int .i64 q0, .string u0, .int .i64 g0, .string p0, .string b0] 36) (ext_refl w7)))
          have G8 := Lib.hid ((GG.out.ext X3.out).step T8.out.st)
          have RD := fun (hs : _) => read_next ⟨q0, u0, g0, p0, b0⟩ ⟨x0, x1, x2, x3, x4⟩ _ V D rb vb k _ secS _ _ _ T8.out.rdr T8.out.src.vault.1 (G8.out.sub (fun _ hi => hi.elim (fun h => .inl (T8.out.src.vault.2 _ h)) .inr)) (fun i h1 h2 => T8.out.ap i (T8.out.src.vault.2 i h1) h2) SSH.out.1 SSH.out.2.1 SSH.out.2.2.1 SSH.out.2.2.2.1 (by omega) hs
          have RD := RD (by have := OKL.out; show R.ok.length < 1048576; omega)
          rw [SSH.out.2.2.2.2] at RD
          unfold recV at RD
          dsimp only at RD
          clear hs7 hst7 DO TW GW e0 e1 e2 e3 e4 T7 G8 X4
          go_wp2_with fail
          refine RD.mono ?_
          rintro _ w9 ⟨rfl, D', hr9, hst9⟩
          have T9 := Lib.hid (T8.out.read hr9 hst9)
          clear hr9 hst9 RD T8
          go_wp2_with fail
          refine (rcells_any w9 D' rb vb _ _ T9.out.rdr (by omega)).mono ?_
          rintro _ w10 ⟨v10, rfl, ho10, _, hb10⟩
          have T10 := Lib.hid (T9.out.ext (ext_of hb10))
          have O10 := Lib.hid ho10
          clear ho10 hb10 T9
          go_wp2_with fail
          refine (scells_any w10 V F' sb vb _ secS _ T10.out.src (by omega)).mono ?_
          rintro _ w11 ⟨v11, rfl, ho11, _, hb11⟩
          have T11 := Lib.hid (T10.out.ext (ext_of hb11))
          have O11 := Lib.hid ho11
          have O10' := Lib.hid (O10.out.kept (grown_below hb11 none) (by simp))
          clear ho11 hb11 T10 O10
          obtain ⟨qa, ca, rfl⟩ := rows_shape O10'.out
          obtain ⟨qb, cb, rfl⟩ := rows_shape O11.out
          have EQ := eqC_any qa qb ca cb _ _ w11 (by rw [sortC_len]; exact TLR.out) (by rw [sortC_len]; exact TLS.out) (cellsIn_of O10'.out).1 (cellsIn_of O11.out).1
          go_wp2_with fail
          refine EQ.mono ?_
          rintro _ w12 ⟨rfl, hx12⟩
          have T12 := Lib.hid (T11.out.ext hx12)
          rw [TEQ.out, (allEq_cells _ _).2 rfl]
          clear EQ hx12 T11 O10' O11
          go_wp2_with fail
          go_roundw
          case rel =>
            refine ⟨k + 1, F', D', hlt, by go_num, Lib.hid ?_⟩
            rw [RT2.out, ← HS.out]
            exact T12.out.mono (by omega) (Nat.le_refl _)
          case measure => simp [intOf]; omega
        · rw [if_neg hX, if_neg hX, doS_no hX] at DO
          have RT2 := Lib.hid (show runM secS (l.take (k + 1)) = R from by rw [RT.out]; unfold run1; rw [if_neg hX])
          generalize doX R.S x = xx at DO
          clear hX RT HRU
          obtain ⟨x0, x1, x2, x3, x4⟩ := x
          unfold evV recV zeroR at DO
          dsimp only at DO e0 e1 e2 e3 e4
          go_wp2_with fail
          refine DO.mono ?_
          rintro _ w7 ⟨rfl, F', hs7, hst7⟩
          have T7 := Lib.hid (TW.out.turn hs7 hst7)
          have T8 := Lib.hid (T7.out.ext (ext_alloc (.cells #[.int .i64 0, .string ⟨#[]⟩, .int .i64 0, .string ⟨#[]⟩, .string ⟨#[]⟩] 36) (ext_refl w7)))
          clear hs7 hst7 DO TW GW e0 e1 e2 e3 e4 T7 X4
          go_wp2_with fail
          go_roundw
          case rel =>
            refine ⟨k + 1, F', D, hlt, by go_num, Lib.hid ?_⟩
            rw [RT2.out]
            exact T8.out.mono (by omega) (by omega)
          case measure => simp [intOf]; omega
      · obtain rfl : k = l.length := by omega
        rw [List.take_length] at TW
        have HRU := Lib.hid (runs secS l)
        have OKL := Lib.hid (ok_len secS l)
        generalize runM secS l = R at TW HRU OKL
        go_wp2_with fail
        refine (rat_any wr D rb vb _ _ TW.out.rdr).mono ?_
        rintro _ w7 ⟨rfl, hx⟩
        have T7 := Lib.hid (TW.out.ext hx)
        clear hx TW X4
        go_wp2_with fail
        refine (sfeed_any w7 V F sb vb _ secS _ T7.out.src).mono ?_
        rintro _ w8 ⟨v8, rfl, ho8, hb8⟩
        have T8 := Lib.hid (T7.out.ext (ext_of hb8))
        obtain ⟨q8, c8, rfl⟩ := ownsRl_shape ho8
        have RA := Lib.hid (recsAt_owned ho8)
        have LE := HRU.out.inv.len
        clear ho8 hb8 T7
        have LO := rlost_any w8 D rb vb _ _ T8.out.rdr
        unfold rdSame at LO ⊢
        dsimp only at LO ⊢
        rw [show ((0 : Nat) : Int) = 0 from rfl] at LO
        rw [LE]
        have G8 := Lib.hid ((GG.out.ext X3.out).step T8.out.st)
        have XF := Lib.hid (ext_trans X3.out T8.out.st.ext)
        by_cases h0 : R.ok.length = 0
        · have hL0 : R.S.L = [] := List.length_eq_zero_iff.1 (LE.trans h0)
          have hm : headR R.S.L = ⟨#[0, 0, 0, 0, 0, 0, 0, 0, 0, 0, 0, 0, 0, 0, 0, 0]⟩ := by rw [hL0]; rfl
          rw [h0, hm, show ((0 : Nat) : Int) = 0 from rfl]
          clear LE RA
          go_wp2_with fail
          refine LO.mono ?_
          rintro _ w9 ⟨rfl, rfl⟩
          go_wp2_with fail
          go_ret
          exact ⟨rfl, XF.out⟩
        · have hlt : R.ok.length - 1 < R.S.L.length := by rw [LE]; omega
          have hr := List.getElem?_eq_getElem hlt
          have hh : headR R.S.L = ⟨(mkB (R.S.L[R.ok.length - 1])).toArray⟩ := by
            have h1 : R.S.L.getLast? = R.S.L[R.ok.length - 1]? := by rw [List.getLast?_eq_getElem?, LE]
            unfold headR
            rw [h1, hr]; rfl
          obtain ⟨g2, o2, rfl, r0, r1, r2, r3, r4, hg2⟩ := recsAt_row RA.out hr
          have he := List.getElem?_eq_getElem (show R.ok.length - 1 < R.ok.length by omega)
          have TO := (HRU.out.inv.told _ _ _ hr he).1.small
          have TP := (HRU.out.inv.told _ _ _ hr he).1.prev
          rw [hh]
          generalize R.S.L[R.ok.length - 1] = rc at r0 r1 r2 r3 r4 TO TP
          have MK := fun W hR => fmark_any rc W (by omega) hR
          generalize hmk : (⟨(mkB rc).toArray⟩ : ByteArray) = mk at MK
          have hnp : (0 : Int) < R.ok.length := by omega
          have hn0 : ((R.ok.length : Int) == 0) = false := beq_eq_false_iff_ne.2 (by omega)
          have hc1 : (R.ok.length : Int) - 1 = ((R.ok.length - 1 : Nat) : Int) := by omega
          have hn60 := OKL.out
          generalize R.ok.length = nn at hnp hn0 hc1 hn60 r0 r1 r2 r3 r4 ⊢
          clear hr he hh hlt RA LE h0 TO TP hmk
          obtain ⟨q0, u0, g0, p0, b0⟩ := rc
          unfold recV at MK
          dsimp only at r0 r1 r2 r3 r4 MK
          go_wp2_with fail
          refine LO.mono ?_
          rintro _ w9 ⟨rfl, rfl⟩
          go_wp2_with fail
          refine (MK _ G8.out.rounds).mono ?_
          rintro _ w10 ⟨rfl, hx⟩
          have XG := Lib.hid (ext_trans XF.out hx)
          clear hx
          go_wp2_with fail
          go_ret
          exact ⟨rfl, XG.out⟩
theorem readerSame_law (q : Option Addr) (cp : Nat) (l : List Ev) (w : World) (hG : Glob w none0) (hl : l.length ≤ 9223372036854775807) (_ : l.length ≤ cp) (h1 : evsAt w q l) (_ : q = none → l.length = 0 ∧ cp = 0) :
    Calls Tryz.prog 3 #[.slice q l.length cp] w (Res true w) := readerSame_any q cp l w hl h1 hG
end Go.Proofs.YtafdigdopeahdaaGreatDoor
namespace Go.Proofs.YtafdigdopeahdaaGreatDoor
open Go.RowKit

theorem own : ownKnob Tryz.prog.godebug = none := by kernel_rfl
theorem gRounds : Tryz.prog.globalNamed "oubliette/sum.rounds" = some 2 := by kernel_rfl
theorem tRounds : (Tryz.prog.globals[2]?).map (·.type) = some 187 := by kernel_rfl
def roundsZ : List Int := roundsL.map fun n : Nat => (n : Int)
theorem rounds_data : (Rows.laid_oubliette_sum_rounds : DataW Unit) = Lib.tabData .u32 roundsZ := rfl
theorem rounds_at : (List.range 64).all (fun i => roundsZ.getD i 0 == val (K256 i)) = true := by decide +kernel
/-- The table stands first on the list. -/
theorem Rounds_of_laid {rest : List (String × DataW Unit)} {W : World} (h : laidMet Tryz.prog (("oubliette/sum.rounds", Rows.laid_oubliette_sum_rounds) :: rest) W) : Rounds W := by
  rw [rounds_data] at h
  have hT := Lib.tabIs_of_head gRounds tRounds Tryz.underlying187 Tryz.underlying151 (by kernel_rfl) (by kernel_rfl) h
  have hc : ∀ i, i < 64 → W.cell? ⟨2, i, none⟩ = some (.int .u32 (val (K256 i))) := fun i hi => by
    have h1 := hT.cell gRounds i (by simpa [roundsZ, roundsL] using hi)
    have h2 := List.all_eq_true.1 rounds_at i (List.mem_range.2 hi)
    rw [h1, eq_of_beq h2]
  exact ⟨block_lt_of_cell (hc 0 (by omega)), hc⟩

theorem rtypeT : (Tryz.prog.cutTypes.find? (·.1 == "internal/reflectlite.rtype")).map (·.2) = some 156 := by kernel_rfl
theorem gErr : Tryz.prog.globalNamed "errors.errorType" = some 0 := by kernel_rfl
theorem errRow : ((List.range 248).filter fun t => Tryz.prog.rowNamed t [101, 114, 114, 111, 114]) = [27] := by kernel_rfl
theorem typesSize : Tryz.prog.types.size = 248 := by kernel_rfl
/-- The handle of the type error. -/
theorem ErrT_of_met {W : World} (h : handlesMet Tryz.prog [("errors.errorType", Rows.laid_errors_errorType)] W) : ErrT W := by
  obtain ⟨name, u, ty, e1, e2, e3, e4, e5⟩ := h _ (List.mem_singleton.2 rfl)
  have en : name = [101, 114, 114, 111, 114] := (Option.some.inj e1).symm
  subst en
  obtain rfl := Option.some.inj (rtypeT.symm.trans e2)
  have hm : ty ∈ (List.range 248).filter fun t => Tryz.prog.rowNamed t [101, 114, 114, 111, 114] := List.mem_filter.2 ⟨List.mem_range.2 (by rw [← typesSize]; exact e3), e4⟩
  rw [errRow] at hm
  obtain rfl := List.mem_singleton.1 hm
  have hh : typeHandle Tryz.prog 27 = rt 27 := by kernel_rfl
  rw [hh] at e5
  have := World.var?_cell gErr e5 0
  simpa [ErrT] using this
theorem ErrT_of_laid {W : World} (h : laidMetH Tryz.prog [("errors.errorType", Rows.laid_errors_errorType)] W) : ErrT W := by
  have h' : laidMet Tryz.prog [] W ∧ handlesMet Tryz.prog [("errors.errorType", Rows.laid_errors_errorType)] W := h
  exact ErrT_of_met h'.2
theorem both_of_laidH {W : World} (h : laidMetH Tryz.prog [("oubliette/sum.rounds", Rows.laid_oubliette_sum_rounds), ("errors.errorType", Rows.laid_errors_errorType)] W) :
    laidMet Tryz.prog [("oubliette/sum.rounds", Rows.laid_oubliette_sum_rounds)] W ∧ handlesMet Tryz.prog [("errors.errorType", Rows.laid_errors_errorType)] W := h
theorem Rounds_of_laidH {W : World} (h : laidMetH Tryz.prog [("oubliette/sum.rounds", Rows.laid_oubliette_sum_rounds), ("errors.errorType", Rows.laid_errors_errorType)] W) : Rounds W := Rounds_of_laid (both_of_laidH h).1
theorem ErrT_of_laidH {W : World} (h : laidMetH Tryz.prog [("oubliette/sum.rounds", Rows.laid_oubliette_sum_rounds), ("errors.errorType", Rows.laid_errors_errorType)] W) : ErrT W := ErrT_of_met (both_of_laidH h).2
end Go.Proofs.YtafdigdopeahdaaGreatDoor
namespace Go.Proofs.YtafdigdopeahdaaGreatDoor
open Go.ChangeShapes Go.WideShapes Go.ChangeAt Go.RowKit

theorem laidOut : laidOutB Tryz.prog = true := by kernel_rfl
theorem byte_int {n : Int} (h : (Lit.int .u8 n).wf = true) : ∃ b : UInt8, n = (b.toNat : Int) := by
  have h2 : 0 ≤ n ∧ n ≤ 255 := by
    simp only [Lit.wf, Bool.and_eq_true, decide_eq_true_eq] at h
    exact ⟨h.1, h.2⟩
  refine ⟨UInt8.ofNat n.toNat, ?_⟩
  rw [UInt8.toNat_ofNat']; omega
/-- A slice of texts is a list of them. -/
theorem texts_of_Trod {H : Type} {enc : TypeId × Value → H} {W : World} {q : Option Addr} {l c : Nat} {d : DataW H} {p : List MemPlace} (h : DataW.Trod enc Tryz.prog W 0 (fun _ => true) true 120 (.slice q l c) d p) :
    ∃ ps : List ByteArray, l = ps.length ∧ textsAt W q ps := by
  obtain ⟨fuel, hf⟩ := h
  rcases open_strings Tryz.underlying120 Tryz.underlying9 (by kernel_rfl) hf with ⟨hcs, hx⟩ | ⟨a, len', cap', ss, hcs, _, hl, hm, hz, hx, hcell, hwz⟩
  · simp [Value.cells] at hcs
    obtain ⟨rfl, rfl, rfl⟩ := hcs
    exact ⟨[], rfl, fun j s hj => by simp at hj⟩
  · simp [Value.cells] at hcs
    obtain ⟨rfl, rfl, rfl⟩ := hcs
    simp only [if_true] at hz
    refine ⟨ss.take l, by rw [List.length_take]; omega, ?_⟩
    intro j s hj
    have hjl : j < l := by
      have := (List.getElem?_eq_some_iff.1 hj).1
      rw [List.length_take] at this; omega
    rw [List.getElem?_take_of_lt hjl] at hj
    obtain ⟨b, off, spot⟩ := a
    have hspot : spot = none := by simpa [Addr.add] using World.cell?_spot (hcell 0 (by omega))
    subst hspot
    have hc := hcell j (by omega)
    rw [add_flat', List.getD_eq_getElem?_getD, hj] at hc
    exact ⟨b, off, rfl, block_lt_of_cell hc, hc⟩
end Go.Proofs.YtafdigdopeahdaaGreatDoor
