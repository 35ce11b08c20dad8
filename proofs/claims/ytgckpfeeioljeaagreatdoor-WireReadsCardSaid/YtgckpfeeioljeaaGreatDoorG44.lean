/- oubliettekeep.WireReads (the walk). · What the rows' condition says of the package-level variables, in the walks' words. · Arguments as data: slices of texts, bytes, in the walks' words. -/
import Derived.Test.YtgckpfeeioljeaaGreatDoorProg
import Derived.Test.YtgckpfeeioljeaaGreatDoorG34
import Derived.Test.YtgckpfeeioljeaaGreatDoorG41
import Derived.Test.YtgckpfeeioljeaaGreatDoorG42
import Derived.Test.YtgckpfeeioljeaaGreatDoorG37
import Derived.Test.YtgckpfeeioljeaaGreatDoorG40
import Derived.Test.YtgckpfeeioljeaaGreatDoorG43
import Derived.Test.YtgckpfeeioljeaaGreatDoorRows
import Derived.Test.YtgckpfeeioljeaaGreatDoorG10
import Derived.Lib.LaidTab
import Derived.Stop.LaidErr
import Derived.LaidMore
import Derived.MakeChecks
import Derived.Test.YtgckpfeeioljeaaGreatDoorG18
import Derived.LaidHandle
import Derived.Test.YtgckpfeeioljeaaGreatDoorG11
import Derived.SliceStrings
import Derived.Carry
import Derived.ProofKit
namespace Go.Proofs.YtgckpfeeioljeaaGreatDoor
open Go.RowKit Go.Shelf

theorem mkS_app (l m : List UInt8) : mkS l ++ mkS m = mkS (l ++ m) := by
  apply ByteArray.ext
  rw [ByteArray.data_append, ← Array.toList_inj]
  simp [mkS]
set_option maxRecDepth 100000 in
set_option maxHeartbeats 4000000 in
theorem bytes_any' (q : Option Addr) (cp : Nat) (L : List Rec) (w : World) (hz : L.length ≤ 1000) (hf : ∀ r ∈ L, fitB r = true) (hr : recsAt w q L) (hR : Rounds w) :
    Calls Tryz.prog 12 #[.slice q L.length cp] w fun r w' => r = .returned (.tuple #[.string (mkS (catW L)), .bool true]) ∧ ∃ x, w' = ext w x := by
  have RR := Lib.hid hr
  have RO := Lib.hid hR
  have HF := Lib.hid hf
  clear hr hR hf
  go_enter Tryz.func12, Tryz.ntmps12
  go_wp2_with fail
  go_loopw [4, 5] (fun sv iv wr => ∃ k : Nat, k ≤ L.length ∧ sv = .string (mkS (catW (L.take k))) ∧ iv = .int .i64 k ∧ Hid (∃ x, wr = ext w x)) (fun _ iv _ => L.length - (intOf iv).toNat)
  case atStart => exact ⟨0, Nat.zero_le _, rfl, rfl, Lib.hid (ext_refl w)⟩
  case round =>
    obtain ⟨k, hk, rfl, rfl, XX⟩ := hrel
    by_cases hlt : k < L.length
    · have hx := List.getElem?_eq_getElem hlt
      have hfx := HF.out _ (List.getElem_mem hlt)
      have HN := Lib.hid (show catW (L.take (k + 1)) = catW (L.take k) ++ writeL mkB L[k] from by rw [List.take_add_one, hx, Option.toList_some, catW_snoc])
      have hs1 : (mkS (catW (L.take k))).size ≤ 1048576 := by
        rw [mkS_size]
        have := catW_len (L.take k) (fun r hr => HF.out r (List.mem_of_mem_take hr))
        rw [List.length_take] at this
        omega
      have hb := ext_iff.1 XX.out
      obtain ⟨g, o, rfl, e0, e1, e2, e3, e4, hg⟩ := recsAt_row (recsAt_of RR.out (fun k hk => hb.block k hk) hb.size) hx
      generalize L[k] = x at hx hfx HN e0 e1 e2 e3 e4
      have hft := fits_of hfx
      have WW := wwrite_any x wr (by unfold fits at hft; omega) (Rounds_ext RO.out XX.out)
      rw [hfx, if_pos rfl] at WW
      have hs2 : (mkS (writeL mkB x)).size ≤ 1000 := by rw [mkS_size]; exact writeL_len hfx
      change Calls _ _ _ _ (fun e w' => e = .returned (.tuple #[.string (mkS (writeL mkB x)), .nilIface]) ∧ _) at WW
      have HA := Lib.hid (mkS_app (catW (L.take k)) (writeL mkB x))
      rw [← HN.out] at HA
      generalize mkS (writeL mkB x) = t at WW hs2 HA
      generalize mkS (catW (L.take k)) = s at hs1 HA
      clear hx hfx hft hb HN
      have hlt' : (k : Int) < L.length := by omega
      obtain ⟨q0, u0, g0, p0, b0⟩ := x
      unfold recV at WW
      dsimp only at WW e0 e1 e2 e3 e4
      go_wp2_with fail
      refine WW.mono ?_
      rintro _ w2 ⟨rfl, hx⟩
      have X2 := Lib.hid (ext_trans XX.out hx)
      clear hx WW e0 e1 e2 e3 e4
      go_wp2_with fail
      go_roundw
      case rel => exact ⟨k + 1, hlt, by rw [← HA.out], by go_num, X2⟩
      case measure => simp [intOf]; omega
    · obtain rfl : k = L.length := by omega
      rw [List.take_length]
      go_wp2_with fail
      go_ret2
      exact ⟨rfl, XX.out⟩
set_option maxRecDepth 100000 in
set_option maxHeartbeats 8000000 in
theorem wireReads_any (q1 : Option Addr) (cp1 : Nat) (l : List Ev) (w : World) (hl : l.length ≤ 9223372036854775807) (h1 : evsAt w q1 l) (hG : Glob w none0) :
    Calls Tryz.prog 3 #[.slice q1 l.length cp1] w (Res true w) := by
  have F1 := few_any q1 cp1 l w hl h1
  have S1 := Lib.hid (fun h : fewB l = true => few_sizes h)
  have E1 := Lib.hid h1
  have GG := Lib.hid hG
  clear h1 hG
  go_enter Tryz.func3, Tryz.ntmps3
  go_wp2_with fail
  refine F1.mono ?_
  rintro _ w1 ⟨rfl, hx⟩
  have X1 := Lib.hid hx
  clear hx F1
  generalize fewB l = few1 at S1
  cases few1 with
  | false =>
    go_wp2_with fail
    go_ret
    exact ⟨rfl, X1.out⟩
  | true =>
    obtain ⟨hl30, hls⟩ := S1.out (by trivial)
    have HLS := Lib.hid hls
    clear S1 hls
    go_wp2_with fail
    refine (written_any w1 (GG.out.ext X1.out).rounds).mono ?_
    rintro _ w1' ⟨rfl, hx⟩
    have X1' := Lib.hid (ext_trans X1.out hx)
    clear hx X1
    go_wp2_with fail
    refine (fed_any w1' (GG.out.ext X1'.out)).mono ?_
    rintro _ w2 ⟨rfl, hx⟩
    have X2 := Lib.hid (ext_trans X1'.out hx)
    clear hx X1'
    have B2 := Lib.hid (ext_iff.1 X2.out)
    have DN := done_any q1 cp1 l w2 (by omega) HLS.out (E1.out.at B2.out (Nat.le_refl _)) (GG.out.ext X2.out)
    go_wp2_with fail
    refine DN.mono ?_
    rintro _ w3 ⟨sb, vb, V, F, A, vo, vr, vs, rfl, hd3⟩
    have D3 := Lib.hid hd3
    have HRU := Lib.hid (runs secS l)
    have OKL := Lib.hid (show (runM secS l).ok.length ≤ 30 from by have := ok_len secS l; omega)
    clear hd3 DN B2
    generalize runM secS l = R at D3 HRU OKL
    have HLE := Lib.hid HRU.out.inv.len
    have hL30 : R.S.L.length ≤ 30 := by rw [HLE.out]; exact OKL.out
    have FIT := Lib.hid (show ∀ r ∈ R.S.L, fitB r = true from fun r hr => by
      obtain ⟨k, hk⟩ := List.mem_iff_getElem?.1 hr
      exact told_fit HRU.out (by have := OKL.out; omega) hk)
    go_wp2_with fail
    refine (sfeed_any w3 V F sb vb _ secS _ D3.out.src).mono ?_
    rintro _ w4 ⟨v4, rfl, ho4, hb4⟩
    have D4 := Lib.hid (D3.out.ext (ext_of hb4))
    obtain ⟨q4, c4, rfl⟩ := ownsRl_shape ho4
    have RA := recsAt_owned ho4
    have G4 := Lib.hid ((GG.out.ext X2.out).step (D4.out.st.more (F' := V) (fun i hi => .inl (D4.out.sub i (D4.out.src.vault.2 i hi)))))
    have BY := bytes_any' q4 c4 R.S.L w4 (by omega) FIT.out RA G4.out.rounds
    clear ho4 hb4 D3 RA
    go_wp2_with fail
    refine BY.mono ?_
    rintro _ w5 ⟨rfl, hx⟩
    have D5 := Lib.hid (D4.out.ext hx)
    have G5 := Lib.hid (G4.out.ext hx)
    clear hx BY D4 G4
    have hsz : (mkS (catW R.S.L)).size ≤ 30000 := by
      rw [mkS_size]
      have := catW_len R.S.L FIT.out
      omega
    have WA := wall_any (mkS (catW R.S.L)) w5 (by omega) G5.out.rounds
    unfold AllPost at WA
    rw [bs_mkS, allL_cat R.S.L FIT.out] at WA
    dsimp only at WA
    rw [List.length_nil, Nat.sub_zero] at WA
    generalize mkS (catW R.S.L) = s at WA hsz
    go_wp2_with fail
    refine WA.mono ?_
    rintro _ w6 ⟨v6, rfl, ho6, _, hb6⟩
    have D6 := Lib.hid (D5.out.ext (ext_of hb6))
    have G6 := Lib.hid (G5.out.ext (ext_of hb6))
    obtain ⟨q6, c6, rfl⟩ := ownsRl_shape ho6
    have RA6 := recsAt_owned ho6
    have FO := follow_any R HRU.out (by have := OKL.out; omega) R.S.L.length (by rw [HLE.out]; exact Nat.le_refl _) q6 c6 w6 V vb _ D6.out.src.vault.1 G6.out (by rw [List.take_length]; exact RA6)
    clear ho6 hb6 WA D5 G5 RA6
    go_wp2_with fail
    refine (svault_any w6 V F sb vb _ secS _ D6.out.src).mono ?_
    rintro _ w7 ⟨rfl, rfl⟩
    go_wp2_with fail
    refine FO.mono ?_
    rintro _ w7 ⟨rb, D, rfl, hr7, hs7⟩
    have D7 := Lib.hid (D6.out.ext hs7.ext)
    have G7 := Lib.hid (G6.out.ext hs7.ext)
    have R7 := Lib.hid hr7
    clear hr7 hs7 FO D6 G6
    go_wp2_with fail
    refine (svault_any w7 V F sb vb _ secS _ D7.out.src).mono ?_
    rintro _ w8 ⟨rfl, rfl⟩
    go_wp2_with fail
    refine (sfeed_any w7 V F sb vb _ secS _ D7.out.src).mono ?_
    rintro _ w8 ⟨v8, rfl, ho8, hb8⟩
    have D8 := Lib.hid (D7.out.ext (ext_of hb8))
    have G8 := Lib.hid (G7.out.ext (ext_of hb8))
    have R8 := Lib.hid (R7.out.ext (ext_of hb8))
    obtain ⟨q8, c8, rfl⟩ := ownsRl_shape ho8
    have RA8 := recsAt_owned ho8
    have FO := follow_any R HRU.out (by have := OKL.out; omega) R.S.L.length (by rw [HLE.out]; exact Nat.le_refl _) q8 c8 w8 V vb _ D8.out.src.vault.1 G8.out (by rw [List.take_length]; exact RA8)
    clear ho8 hb8 D7 G7 R7 RA8
    go_wp2_with fail
    refine FO.mono ?_
    rintro _ w9 ⟨rb2, D2, rfl, hr9, hs9⟩
    have X9 := Lib.hid (ext_trans X2.out (ext_trans D8.out.st.ext hs9.ext))
    have R9 := Lib.hid (R8.out.ext hs9.ext)
    have P9 := Lib.hid hr9
    clear hr9 hs9 FO D8 G8 R8
    have TL : (follR R R.S.L.length).T.length ≤ 30 := by
      rw [(late HRU.out R.S.L.length (by rw [HLE.out]; exact Nat.le_refl _)).2.2.1]
      have := List.length_filter_le (fun c => !goneIn (R.ok.drop R.S.L.length) c.subject) (tabN R.ok R.S.L.length)
      have := tabN_len R.ok R.S.L.length
      omega
    go_wp2_with fail
    refine (rcells_any w9 D rb vb _ _ R9.out (by omega)).mono ?_
    rintro _ w32 ⟨v32, rfl, ho32, _, hb32⟩
    have R3 := Lib.hid (R9.out.ext (ext_of hb32))
    have P3 := Lib.hid (P9.out.ext (ext_of hb32))
    have X3 := Lib.hid (ext_trans X9.out (ext_of hb32))
    have O3 := Lib.hid ho32
    clear ho32 hb32 R9 P9 X9
    go_wp2_with fail
    refine (rcells_any w32 D2 rb2 vb _ _ P3.out (by omega)).mono ?_
    rintro _ w33 ⟨v33, rfl, ho33, _, hb33⟩
    have R4 := Lib.hid (R3.out.ext (ext_of hb33))
    have P4 := Lib.hid (P3.out.ext (ext_of hb33))
    have X4 := Lib.hid (ext_trans X3.out (ext_of hb33))
    have O4 := Lib.hid (O3.out.kept (grown_below hb33 none) (by simp))
    have Q4 := Lib.hid ho33
    clear ho33 hb33 R3 P3 O3 X3
    obtain ⟨q32, c32, rfl⟩ := rows_shape O4.out
    obtain ⟨q33, c33, rfl⟩ := rows_shape Q4.out
    have EQ := eqC_any q32 q33 c32 c33 _ _ w33 (by rw [sortC_len]; omega) (by rw [sortC_len]; omega) (cellsIn_of O4.out).1 (cellsIn_of Q4.out).1
    rw [(allEq_cells _ _).2 rfl] at EQ
    go_wp2_with fail
    refine EQ.mono ?_
    rintro _ w34 ⟨rfl, hx34⟩
    have R5 := Lib.hid (R4.out.ext hx34)
    have P5 := Lib.hid (P4.out.ext hx34)
    have X5 := Lib.hid (ext_trans X4.out hx34)
    clear EQ hx34 R4 P4 X4 O4 Q4
    go_wp2_with fail
    refine (rlost_any w34 D rb vb _ _ R5.out).mono ?_
    rintro _ w35 ⟨rfl, rfl⟩
    go_wp2_with fail
    refine (rlost_any w34 D2 rb2 vb _ _ P5.out).mono ?_
    rintro _ w36 ⟨rfl, rfl⟩
    go_wp2_with fail
    go_ret
    exact ⟨rfl, X5.out⟩
theorem wireReads_law (q : Option Addr) (cp : Nat) (l : List Ev) (w : World) (hG : Glob w none0) (hl : l.length ≤ 9223372036854775807) (_ : l.length ≤ cp) (h1 : evsAt w q l) (_ : q = none → l.length = 0 ∧ cp = 0) :
    Calls Tryz.prog 3 #[.slice q l.length cp] w (Res true w) := wireReads_any q cp l w hl h1 hG
end Go.Proofs.YtgckpfeeioljeaaGreatDoor
namespace Go.Proofs.YtgckpfeeioljeaaGreatDoor
open Go.RowKit

theorem own : ownKnob Tryz.prog.godebug = none := by kernel_rfl
theorem gRounds : Tryz.prog.globalNamed "oubliette/sum.rounds" = some 2 := by kernel_rfl
theorem tRounds : (Tryz.prog.globals[2]?).map (·.type) = some 219 := by kernel_rfl
def roundsZ : List Int := roundsL.map fun n : Nat => (n : Int)
theorem rounds_data : (Rows.laid_oubliette_sum_rounds : DataW Unit) = Lib.tabData .u32 roundsZ := rfl
theorem rounds_at : (List.range 64).all (fun i => roundsZ.getD i 0 == val (K256 i)) = true := by decide +kernel
/-- The table stands first on the list. -/
theorem Rounds_of_laid {rest : List (String × DataW Unit)} {W : World} (h : laidMet Tryz.prog (("oubliette/sum.rounds", Rows.laid_oubliette_sum_rounds) :: rest) W) : Rounds W := by
  rw [rounds_data] at h
  have hT := Lib.tabIs_of_head gRounds tRounds Tryz.underlying219 Tryz.underlying166 (by kernel_rfl) (by kernel_rfl) h
  have hc : ∀ i, i < 64 → W.cell? ⟨2, i, none⟩ = some (.int .u32 (val (K256 i))) := fun i hi => by
    have h1 := hT.cell gRounds i (by simpa [roundsZ, roundsL] using hi)
    have h2 := List.all_eq_true.1 rounds_at i (List.mem_range.2 hi)
    rw [h1, eq_of_beq h2]
  exact ⟨block_lt_of_cell (hc 0 (by omega)), hc⟩

theorem rtypeT : (Tryz.prog.cutTypes.find? (·.1 == "internal/reflectlite.rtype")).map (·.2) = some 173 := by kernel_rfl
theorem gErr : Tryz.prog.globalNamed "errors.errorType" = some 1 := by kernel_rfl
theorem errRow : ((List.range 273).filter fun t => Tryz.prog.rowNamed t [101, 114, 114, 111, 114]) = [47] := by kernel_rfl
theorem typesSize : Tryz.prog.types.size = 273 := by kernel_rfl
/-- The handle of the type error. -/
theorem ErrT_of_met {W : World} (h : handlesMet Tryz.prog [("errors.errorType", Rows.laid_errors_errorType)] W) : ErrT W := by
  obtain ⟨name, u, ty, e1, e2, e3, e4, e5⟩ := h _ (List.mem_singleton.2 rfl)
  have en : name = [101, 114, 114, 111, 114] := (Option.some.inj e1).symm
  subst en
  obtain rfl := Option.some.inj (rtypeT.symm.trans e2)
  have hm : ty ∈ (List.range 273).filter fun t => Tryz.prog.rowNamed t [101, 114, 114, 111, 114] := List.mem_filter.2 ⟨List.mem_range.2 (by rw [← typesSize]; exact e3), e4⟩
  rw [errRow] at hm
  obtain rfl := List.mem_singleton.1 hm
  have hh : typeHandle Tryz.prog 47 = rt 47 := by kernel_rfl
  rw [hh] at e5
  have := World.var?_cell gErr e5 0
  simpa [ErrT] using this
theorem ErrT_of_laid {W : World} (h : laidMetH Tryz.prog [("errors.errorType", Rows.laid_errors_errorType)] W) : ErrT W := by
  have h' : laidMet Tryz.prog [] W ∧ handlesMet Tryz.prog [("errors.errorType", Rows.laid_errors_errorType)] W := h
  exact ErrT_of_met h'.2
theorem both_of_laidH {W : World} (h : laidMetH Tryz.prog [("oubliette/sum.rounds", Rows.laid_oubliette_sum_rounds), ("errors.errorType", Rows.laid_errors_errorType)] W) :
    laidMet Tryz.prog [("oubliette/sum.rounds", Rows.laid_oubliette_sum_rounds)] W ∧ handlesMet Tryz.prog [("errors.errorType", Rows.laid_errors_errorType)] W := h
theorem Rounds_of_laidH {W : World} (h : laidMetH Tryz.prog [("oubliette/sum.rounds", Rows.laid_oubliette_sum_rounds), ("errors.errorType", Rows.laid_errors_errorType)] W) : Rounds W := Rounds_of_laid (both_of_laidH h).1
theorem ErrT_of_laidH {W : World} (h : laidMetH Tryz.prog [("oubliette/sum.rounds", Rows.laid_oubliette_sum_rounds), ("errors.errorType", Rows.laid_errors_errorType)] W) : ErrT W := ErrT_of_met (both_of_laidH h).2
end Go.Proofs.YtgckpfeeioljeaaGreatDoor
namespace Go.Proofs.YtgckpfeeioljeaaGreatDoor
open Go.ChangeShapes Go.WideShapes Go.ChangeAt Go.RowKit

theorem laidOut : laidOutB Tryz.prog = true := by kernel_rfl
theorem byte_int {n : Int} (h : (Lit.int .u8 n).wf = true) : ∃ b : UInt8, n = (b.toNat : Int) := by
  have h2 : 0 ≤ n ∧ n ≤ 255 := by
    simp only [Lit.wf, Bool.and_eq_true, decide_eq_true_eq] at h
    exact ⟨h.1, h.2⟩
  refine ⟨UInt8.ofNat n.toNat, ?_⟩
  rw [UInt8.toNat_ofNat']; omega
/-- A slice of texts is a list of them. -/
theorem texts_of_Trod {H : Type} {enc : TypeId × Value → H} {W : World} {q : Option Addr} {l c : Nat} {d : DataW H} {p : List MemPlace} (h : DataW.Trod enc Tryz.prog W 0 (fun _ => true) true 70 (.slice q l c) d p) :
    ∃ ps : List ByteArray, l = ps.length ∧ textsAt W q ps := by
  obtain ⟨fuel, hf⟩ := h
  rcases open_strings Tryz.underlying70 Tryz.underlying9 (by kernel_rfl) hf with ⟨hcs, hx⟩ | ⟨a, len', cap', ss, hcs, _, hl, hm, hz, hx, hcell, hwz⟩
  · simp [Value.cells] at hcs
    obtain ⟨rfl, rfl, rfl⟩ := hcs
    exact ⟨[], rfl, fun j s hj => by simp at hj⟩
  · simp [Value.cells] at hcs
    obtain ⟨rfl, rfl, rfl⟩ := hcs
    simp only [if_true] at hz
    refine ⟨ss.take l, by rw [List.length_take]; omega, ?_⟩
    intro j s hj
    have hjl : j < l := by
      have := (List.getElem?_eq_some_iff.1 hj).1
      rw [List.length_take] at this; omega
    rw [List.getElem?_take_of_lt hjl] at hj
    obtain ⟨b, off, spot⟩ := a
    have hspot : spot = none := by simpa [Addr.add] using World.cell?_spot (hcell 0 (by omega))
    subst hspot
    have hc := hcell j (by omega)
    rw [add_flat', List.getD_eq_getElem?_getD, hj] at hc
    exact ⟨b, off, rfl, block_lt_of_cell hc, hc⟩
end Go.Proofs.YtgckpfeeioljeaaGreatDoor
