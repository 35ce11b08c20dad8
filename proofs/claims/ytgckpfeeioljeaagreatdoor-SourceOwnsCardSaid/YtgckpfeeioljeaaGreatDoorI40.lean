/- oubliettekeep.SourceOwns (the walk). -/
import Derived.Test.YtgckpfeeioljeaaGreatDoorProg
import Derived.Test.YtgckpfeeioljeaaGreatDoorI38
import Derived.Test.YtgckpfeeioljeaaGreatDoorI31
import Derived.Test.YtgckpfeeioljeaaGreatDoorH28
import Derived.Test.YtgckpfeeioljeaaGreatDoorG43
namespace Go.Proofs.YtgckpfeeioljeaaGreatDoor
open Go.RowKit Go.Shelf

def rdK (v : Value) (w : World) : Nat := match v with
  | .pointer (some a) => match w.cell? a with
    | some (.int _ n) => n.toNat
    | _ => 0
  | _ => 0
theorem cellK {w : World} {b : Nat} {v : Value} {t : TypeId} {f : Nat × Nat} (h : w.heap[b]? = some (.cells #[v] t f)) : w.cell? ⟨b, 0, none⟩ = some v := by rw [cell_in, h]; rfl
theorem rdK_at {w : World} {b : Nat} {n : Nat} {t : TypeId} {f : Nat × Nat} (h : w.heap[b]? = some (.cells #[.int .i64 n] t f)) : rdK (.pointer (some ⟨b, 0, none⟩)) w = n := by
  unfold rdK; dsimp only; rw [cellK h]; simp
theorem cellsIn_row {w : World} {q : Option Addr} {l : List Cell} {i : Nat} {c : Cell} (h : cellsIn w q l) (hi : l[i]? = some c) : ∃ g, q = some ⟨g, 0, none⟩ ∧ g < w.heap.size ∧
    w.cell? ⟨g, i * 4, none⟩ = some (.string c.table) ∧ w.cell? ⟨g, i * 4 + 1, none⟩ = some (.string c.row) ∧ w.cell? ⟨g, i * 4 + 2, none⟩ = some (.string c.subject) := by
  have hl := (List.getElem?_eq_some_iff.1 hi).1
  have he : l[i]! = c := by rw [getElem!_pos l i hl]; exact (List.getElem?_eq_some_iff.1 hi).2
  rcases h with h | ⟨g, hq, hg, hc⟩
  · subst h; simp at hi
  · have h := hc i hl
    rw [he, Nat.zero_add] at h
    exact ⟨g, hq, hg, h 0 _ rfl, h 1 _ rfl, h 2 _ rfl⟩
theorem cellsIn_ext {w w' : World} {q : Option Addr} {l : List Cell} (h : cellsIn w q l) (hx : ∃ x, w' = ext w x) : cellsIn w' q l := by
  have hb := ext_iff.1 hx
  rcases h with h | ⟨g, hq, hg, hc⟩
  · exact .inl h
  · refine .inr ⟨g, hq, Nat.lt_of_lt_of_le hg hb.size, fun j hj i v hi => ?_⟩
    have := hc j hj i v hi
    rw [cell_in] at this ⊢
    rw [hb.block g hg]; exact this
/-- A source, as events happen to it. -/
structure ownSt (w0 w : World) (V F : Blk) (sb vb n : Nat) (S : SrcM) : Prop where
  st : step w0 w none0 F
  src : srcIn w V F sb vb n secS S
theorem ownSt.ext {w0 w w' : World} {V F : Blk} {sb vb n : Nat} {S : SrcM} (h : ownSt w0 w V F sb vb n S) (hx : ∃ x, w' = Go.Proofs.YtgckpfeeioljeaaGreatDoor.ext w x) : ownSt w0 w' V F sb vb n S := ⟨h.st.trans (.of_ext _ hx), h.src.ext hx⟩
theorem ownSt.mono {w0 w : World} {V F : Blk} {sb vb n n' : Nat} {S : SrcM} (h : ownSt w0 w V F sb vb n S) (hn : n ≤ n') : ownSt w0 w V F sb vb n' S := ⟨h.st, h.src.mono hn⟩
set_option maxRecDepth 100000 in
set_option maxHeartbeats 8000000 in
theorem sourceOwns_any (q : Option Addr) (cp : Nat) (l : List Ev) (w : World) (hl : l.length ≤ 9223372036854775807) (h1 : evsAt w q l) (hG : Glob w none0) :
    Calls Tryz.prog 5 #[.slice q l.length cp] w (Res true w) := by
  have F1 := few_any q cp l w hl h1
  have S1 := Lib.hid (fun h : fewB l = true => few_sizes h)
  have E1 := Lib.hid h1
  have GG := Lib.hid hG
  clear h1 hG
  go_enter Tryz.func5, Tryz.ntmps5
  go_wp2_with fail
  refine F1.mono ?_
  rintro _ w1 ⟨rfl, hx⟩
  have X1 := Lib.hid hx
  clear hx F1
  generalize fewB l = few1 at S1
  cases few1 with
  | false =>
    go_wp2_with fail
    go_ret
    exact ⟨rfl, X1.out⟩
  | true =>
    obtain ⟨hl30, hls⟩ := S1.out (by trivial)
    have HLS := Lib.hid hls
    clear S1 hls
    go_wp2_with fail
    refine (fed_any w1 (GG.out.ext X1.out)).mono ?_
    rintro _ w2 ⟨rfl, hx⟩
    have X2 := Lib.hid (ext_trans X1.out hx)
    clear hx X1
    go_wp2_with fail
    refine (applied_any w2).mono ?_
    rintro _ w3 ⟨rfl, hx⟩
    have X3 := Lib.hid (ext_trans X2.out hx)
    clear hx X2
    have SN := snew_any secS w3 rfl
    unfold secS at SN
    go_wp2_with fail
    refine SN.mono ?_
    rintro _ w4 ⟨sb, vb, V, F, rfl, hs, hst⟩
    have OS := Lib.hid (show ownSt w3 w4 V F sb vb (3 * 0) R0.S from ⟨hst, hs⟩)
    clear hs hst SN
    go_wp2_with fail
    go_loopw [5] (fun iv wr => ∃ (k : Nat) (F : Blk), k ≤ l.length ∧ iv = .int .i64 k ∧ Hid (ownSt w3 wr V F sb vb (3 * k) (runM secS (l.take k)).S)) (fun iv _ => l.length - (intOf iv).toNat)
    case atStart => exact ⟨0, F, Nat.zero_le _, rfl, OS⟩
    case round =>
      clear OS
      obtain ⟨k, F, hk, rfl, OS⟩ := hrel
      have X4 := Lib.hid (ext_trans X3.out OS.out.st.ext)
      by_cases hlt : k < l.length
      · have hx := List.getElem?_eq_getElem hlt
        have hz := HLS.out _ (List.getElem_mem hlt)
        have RT := Lib.hid (runM_take secS l k _ hx)
        have HRU := Lib.hid (runs secS (l.take k))
        have ROW := Lib.hid (fun W (hW : ∃ z, W = ext w z) => (E1.out.at (ext_iff.1 hW) (Nat.le_refl _)).row hx)
        have ML := run_many_le l k
        have OKL := Lib.hid (show (runM secS (l.take k)).ok.length ≤ 60 from by have := ok_len secS (l.take k); rw [List.length_take] at this; omega)
        have m1 := (ML l[k].subject).1
        have m2 := (ML l[k].subject).2
        have DO := Lib.hid (fun W n (h : srcIn W V F sb vb n secS (runM secS (l.take k)).S) (hg : Glob W F) (hn : n ≤ 1000000) => sdo_any l[k] W V F sb vb n secS (runM secS (l.take k)).S h hg ⟨hz.1, hz.2.1, hz.2.2.1⟩ hz.2.2.2 (by decide) hn (by omega) (by omega))
        clear ML m1 m2 hz
        generalize hR : runM secS (l.take k) = R at DO OS RT OKL HRU
        generalize l[k] = x at hx RT DO ROW
        clear hR hx
        have hlt' : (k : Int) < l.length := by omega
        have TLR := Lib.hid (show R.S.T.length ≤ 60 from by rw [HRU.out.tab]; exact Nat.le_trans (tabN_len _ _) OKL.out)
        have HO := Lib.hid (HRU.out.inv.once)
        go_wp2_with fail
        refine (scells_any wr V F sb vb _ secS _ OS.out.src (by omega)).mono ?_
        rintro _ wa ⟨v1, rfl, ho1, _, hb1⟩
        have OA := Lib.hid (OS.out.ext (ext_of hb1))
        have RH := Lib.hid (rowHeld.of ho1 (A := F) (fun i hi hF => by have := OS.out.src.lt i hF; omega))
        obtain ⟨qw, cw, rfl⟩ := rows_shape ho1
        clear ho1
        go_wp2_with fail
        refine (sfeed_any wa V F sb vb _ secS _ OA.out.src).mono ?_
        rintro _ wb ⟨v2, rfl, ho2, hb2⟩
        obtain ⟨q2, c2, rfl⟩ := ownsRl_shape ho2
        have OB := Lib.hid (OA.out.ext (ext_of hb2))
        have RB := Lib.hid (RH.out.step (.of_ext F (ext_of hb2)))
        clear ho2 OA RH
        have OC := Lib.hid (OB.out.ext (ext_alloc (.cells #[.slice qw (sortC R.S.T).length cw] 41) (ext_refl wb)))
        have RC := Lib.hid (RB.out.step (.of_ext F (ext_alloc (.cells #[.slice qw (sortC R.S.T).length cw] 41) (ext_refl wb))))
        have BX := Lib.hid (heap_alloc_at wb (.cells #[.slice qw (sortC R.S.T).length cw] 41))
        have BF := Lib.hid (show ¬ F wb.heap.size from fun hF => by have := OB.out.src.lt _ hF; omega)
        clear OB RB hb1 hb2
        have XC := Lib.hid (ext_trans X3.out OC.out.st.ext)
        obtain ⟨g, o, rfl, hg, e0, e1, e2, e3, e4⟩ := ROW.out _ XC.out
        have DQ := DO.out (wb.alloc (.cells #[.slice qw (sortC R.S.T).length cw] 41)) _ OC.out.src ((GG.out.ext X3.out).step OC.out.st) (by omega)
        have ROW := Lib.hid (fun W hW => ROW.out W hW)
        obtain ⟨x0, x1, x2, x3, x4⟩ := x
        unfold DoPost at DQ
        by_cases hX : doX R.S ⟨x0, x1, x2, x3, x4⟩ = 0
        · rw [if_pos hX, if_pos hX] at DQ
          have HX := Lib.hid hX
          have RT2 := Lib.hid (show (doS secS R.S ⟨x0, x1, x2, x3, x4⟩) = (runM secS (l.take (k + 1))).S from by rw [RT.out]; unfold run1; rw [if_pos hX])
          have HLN := Lib.hid (show (doS secS R.S ⟨x0, x1, x2, x3, x4⟩).L.length = R.S.L.length + 1 from by rw [doS_yes hX]; simp)
          have HTT := Lib.hid (show (doS secS R.S ⟨x0, x1, x2, x3, x4⟩).T = stepT ⟨x0, x1, x2, x3, x4⟩ R.S.T from by rw [doS_yes hX])
          generalize toldR secS R.S.many R.S.has R.S.L ⟨x0, x1, x2, x3, x4⟩ = rr at DQ
          generalize doS secS R.S ⟨x0, x1, x2, x3, x4⟩ = S' at DQ RT2 HLN HTT
          obtain ⟨q0, u0, g0, p0, b0⟩ := rr
          unfold evV recV at DQ
          dsimp only at DQ e0 e1 e2 e3 e4
          clear hX RT DO
          go_wp2_with fail
          refine DQ.mono ?_
          rintro _ wd ⟨rfl, F', hs7, hst7⟩
          have OD := Lib.hid (show ownSt w3 _ V F' sb vb (3 * k + 3) S' from ⟨OC.out.st.trans hst7, hs7⟩)
          have RD := Lib.hid (RC.out.step hst7)
          have BD := Lib.hid (hst7.keep (lt_of_heap BX.out) BF.out)
          have BXD := Lib.hid (BD.out.1.trans BX.out)
          have OE := Lib.hid (OD.out.ext (ext_alloc (.cells #[.int .i64 q0, .string u0, .int .i64 g0, .string p0, .string b0] 55) (ext_refl wd)))
          have RE := Lib.hid (RD.out.step (.of_ext F' (ext_alloc (.cells #[.int .i64 q0, .string u0, .int .i64 g0, .string p0, .string b0] 55) (ext_refl wd))))
          have BE := Lib.hid (((ext_iff.1 (ext_alloc (.cells #[.int .i64 q0, .string u0, .int .i64 g0, .string p0, .string b0] 55) (ext_refl wd))).block _ (lt_of_heap BXD.out)).trans BXD.out)
          clear hs7 hst7 DQ OC RC BX BF BD BXD OD RD e0 e1 e2 e3 e4 XC hg
          have TL2 := Lib.hid (show S'.T.length ≤ 61 from by rw [HTT.out]; have := stepT_len ⟨x0, x1, x2, x3, x4⟩ R.S.T; have := TLR.out; omega)
          go_wp2_with fail
          refine (scells_any _ V F' sb vb _ secS _ OE.out.src (by omega)).mono ?_
          rintro _ wf ⟨v3, rfl, ho3, _, hb3⟩
          have OF := Lib.hid (OE.out.ext (ext_of hb3))
          have RF := Lib.hid (RE.out.step (.of_ext F' (ext_of hb3)))
          have BF := Lib.hid ((hb3.block _ (lt_of_heap BE.out)).trans BE.out)
          obtain ⟨qn, cn, rfl⟩ := rows_shape ho3
          have NF := Lib.hid (cellsIn_of ho3).1
          clear ho3 hb3 OE RE BE
          go_wp2_with fail
          refine (sfeed_any wf V F' sb vb _ secS _ OF.out.src).mono ?_
          rintro _ wg ⟨v4, rfl, ho4, hb4⟩
          obtain ⟨q4, c4, rfl⟩ := ownsRl_shape ho4
          have OG := Lib.hid (OF.out.ext (ext_of hb4))
          have RG := Lib.hid (RF.out.step (.of_ext F' (ext_of hb4)))
          have BG := Lib.hid ((hb4.block _ (lt_of_heap BF.out)).trans BF.out)
          have NG := Lib.hid (fun W (hW : ∃ z, W = ext wg z) => cellsIn_ext NF.out (ext_trans (ext_of hb4) hW))
          clear ho4 hb4 OF RF BF NF
          generalize S'.L.length = n1 at HLN ⊢
          have hln : ((n1 : Int) != (R.S.L.length : Int) + 1) = false := by have := HLN.out; simp; omega
          have hL60 : R.S.L.length ≤ 60 := by rw [HRU.out.inv.len]; exact OKL.out
          generalize wb.heap.size = bx at BG ⊢
          have KB := Lib.hid (heap_alloc_at wg (.cells #[.int .i64 0] 3))
          have XH := Lib.hid (ext_alloc (.cells #[.int .i64 0] 3) (ext_refl wg))
          go_wp2_with fail
          generalize wg.alloc (.cells #[.int .i64 0] 3) = wh at KB XH ⊢
          generalize wg.heap.size = kb at KB ⊢
          go_loopw [11] (fun pv wx => ∃ (i kb : Nat), i ≤ (sortC R.S.T).length ∧ pv = .pointer (some ⟨kb, 0, none⟩) ∧ Hid (wx.heap[kb]? = some (.cells #[.int .i64 i] 3 (0, 0))) ∧ Hid (∃ z, wx = ext wg z)) (fun pv wx => (sortC R.S.T).length - rdK pv wx)
          case atStart => exact ⟨0, kb, Nat.zero_le _, rfl, KB, XH⟩
          case round =>
            clear KB XH
            obtain ⟨i, kb, hi, rfl, KB, XX⟩ := hrel
            have b1 := ext_iff.1 XX.out
            have BXX := Lib.hid ((b1.block _ (lt_of_heap BG.out)).trans BG.out)
            have bxc := cellK BXX.out
            have hbx := lt_of_heap BXX.out
            have kbc := cellK KB.out
            have hkb := lt_of_heap KB.out
            by_cases hli : i < (sortC R.S.T).length
            · have hc := List.getElem?_eq_getElem hli
              have HM := Lib.hid ((sortC_mem (T := R.S.T)).1 (List.getElem_mem hli))
              obtain ⟨q', cap', hq', hci, _⟩ := RG.out.step (.of_ext F' XX.out)
              injection hq' with hq' _ hq3
              subst hq' hq3
              obtain ⟨gw, rfl, hgw, r0, r1, r2⟩ := cellsIn_row hci hc
              clear hci
              generalize (sortC R.S.T)[i] = c at hc HM r0 r1 r2
              have hli' : (i : Int) < (sortC R.S.T).length := by omega
              have CAP := Lib.hid (show CapC wr bx kb gw (sortC R.S.T).length cw i c from ⟨hbx, hkb, hgw, bxc, kbc, hli, r0, r1, r2⟩)
              have IX := idxRows_any (atB c) 26 #[.pointer (some ⟨bx, 0, none⟩), .pointer (some ⟨kb, 0, none⟩)] (enters_of Tryz.func26 (by kernel_rfl) rfl) qn cn (sortC S'.T) wr
                (fun W c' hB => (own1_any c' W bx kb gw _ cw i c (CAP.out.ext (ext_of hB))).mono fun e w' ⟨h1, h2⟩ => ⟨h1, hB.trans ((ext_iff.1 h2).mono hB.size)⟩) (by rw [sortC_len]; have := TL2.out; omega) (NG.out wr XX.out)
              have SP := idx_first (atB c) default (sortC S'.T) 0
              unfold Lib.idxBy at IX
              generalize Lib.idxByFrom (fun _ y => atB c y) default (sortC S'.T) 0 = ix at IX SP
              clear b1 hgw r0 r1 r2
              rcases SP with ⟨rfl, hall⟩ | ⟨j, hj, rfl, ht⟩
              · have hs := own_left (e := ⟨x0, x1, x2, x3, x4⟩) HO.out HX.out HM.out (fun d hd hk => by
                  rw [← HTT.out] at hd
                  have h1 := hall d (sortC_mem.2 hd)
                  rw [(atB_iff c d).2 hk] at h1
                  cases h1)
                obtain ⟨c1, c2, c3, c4'⟩ := c
                dsimp only at hs
                have HS := Lib.hid hs
                clear hall hs
                go_wp2_with fail
                refine IX.mono ?_
                rintro _ wy ⟨rfl, hxy⟩
                have XY := Lib.hid (ext_trans XX.out hxy)
                have CY := Lib.hid (CAP.out.ext hxy)
                have KY := Lib.hid (((ext_iff.1 hxy).block _ (lt_of_heap KB.out)).trans KB.out)
                clear hxy IX CAP BXX bxc hbx kbc hkb
                have k0 := CY.out.hl
                have k1 := CY.out.hi
                have k2 := CY.out.hg
                have k3 := CY.out.cl
                have k4 := CY.out.ci
                have k5 := CY.out.r2
                obtain ⟨g', o', hq', hg', e0, e1, e2, e3, e4⟩ := ROW.out wy (ext_trans X3.out (ext_trans OG.out.st.ext XY.out))
                simp only [Option.some.injEq, Addr.mk.injEq, and_true] at hq'
                obtain ⟨rfl, rfl⟩ := hq'
                rw [show x1 = c3 from HS.out] at e1
                go_wp2_with fail
                refine wp_region_ext (by kernel_rfl) (by kernel_rfl) ?_
                repeat (go_big_quiet_step (fail))
                refine wpQuiet_nil ?_
                rintro _ ⟨y, rfl⟩
                have XZ := Lib.hid (ext_trans XY.out ⟨y, rfl⟩)
                have KZ := Lib.hid (((ext_iff.1 ⟨y, rfl⟩ : Below wy.heap.size wy (ext wy y)).block _ (lt_of_heap KY.out)).trans KY.out)
                generalize ext wy y = wz at XZ KZ ⊢
                clear k0 k1 k2 k3 k4 k5 CY KY XY e0 e1 e2 e3 e4
                have kz := cellK KZ.out
                have hi60 : (i : Int) < 60 := by have h1 := TLR.out; rw [← sortC_len] at h1; omega
                have hkz := lt_of_heap KZ.out
                go_wp2_with fail
                go_roundw
                case rel =>
                  refine ⟨i + 1, _, hli, rfl, Lib.hid (heap_alloc_at wz (.cells #[.int .i64 ((i + 1 : Nat) : Int)] 3)), Lib.hid (ext_alloc _ XZ.out)⟩
                case measure =>
                  have m1 := rdK_at (heap_alloc_at wz (.cells #[.int .i64 ((i + 1 : Nat) : Int)] 3))
                  have m2 := rdK_at KB.out
                  rw [show ((i : Int) + 1) = ((i + 1 : Nat) : Int) from rfl, m1, m2]
                  omega
              · have hd := List.getElem?_eq_getElem hj
                have hs := own_same (e := ⟨x0, x1, x2, x3, x4⟩) HO.out HX.out HM.out (by rw [← HTT.out]; exact sortC_mem.1 (List.getElem_mem hj)) ((atB_iff c _).1 ht)
                generalize (sortC S'.T)[j] = d at hd hs
                obtain ⟨d1, d2, d3, d4⟩ := d
                obtain ⟨c1, c2, c3, c4'⟩ := c
                dsimp only at hs
                subst hs
                clear ht
                rw [Nat.zero_add] at IX
                have hj0 : decide ((j : Int) ≥ 0) = true := decide_eq_true (by omega)
                have hj1 : decide ((j : Int) < 0) = false := decide_eq_false (by omega)
                have hj2 : (j : Int) < (sortC S'.T).length := by omega
                go_wp2_with fail
                refine IX.mono ?_
                rintro _ wy ⟨rfl, hxy⟩
                have XY := Lib.hid (ext_trans XX.out hxy)
                have CY := Lib.hid (CAP.out.ext hxy)
                have KY := Lib.hid (((ext_iff.1 hxy).block _ (lt_of_heap KB.out)).trans KB.out)
                clear hxy IX CAP BXX bxc hbx kbc hkb
                obtain ⟨gn, rfl, hgn, n0, n1, n2⟩ := cellsIn_row (NG.out wy XY.out) hd
                dsimp only at n0 n1 n2
                have k0 := CY.out.hl
                have k1 := CY.out.hi
                have k2 := CY.out.hg
                have k3 := CY.out.cl
                have k4 := CY.out.ci
                have k5 := CY.out.r2
                go_wp2_with fail
                refine wp_region_ext (by kernel_rfl) (by kernel_rfl) ?_
                repeat (go_big_quiet_step (fail))
                refine wpQuiet_nil ?_
                rintro _ ⟨y, rfl⟩
                have XZ := Lib.hid (ext_trans XY.out ⟨y, rfl⟩)
                have KZ := Lib.hid (((ext_iff.1 ⟨y, rfl⟩ : Below wy.heap.size wy (ext wy y)).block _ (lt_of_heap KY.out)).trans KY.out)
                generalize ext wy y = wz at XZ KZ ⊢
                clear k0 k1 k2 k3 k4 k5 CY KY XY n0 n1 n2 hgn
                have kz := cellK KZ.out
                have hi60 : (i : Int) < 60 := by have h1 := TLR.out; rw [← sortC_len] at h1; omega
                have hkz := lt_of_heap KZ.out
                go_wp2_with fail
                go_roundw
                case rel =>
                  refine ⟨i + 1, _, hli, rfl, Lib.hid (heap_alloc_at wz (.cells #[.int .i64 ((i + 1 : Nat) : Int)] 3)), Lib.hid (ext_alloc _ XZ.out)⟩
                case measure =>
                  have m1 := rdK_at (heap_alloc_at wz (.cells #[.int .i64 ((i + 1 : Nat) : Int)] 3))
                  have m2 := rdK_at KB.out
                  rw [show ((i : Int) + 1) = ((i + 1 : Nat) : Int) from rfl, m1, m2]
                  omega
            · obtain rfl : i = (sortC R.S.T).length := by omega
              have OX := Lib.hid ((OG.out.ext XX.out).mono (by omega : 3 * k + 3 ≤ 3 * (k + 1)))
              rw [RT2.out] at OX
              go_wp2_with fail
              go_roundw
              case rel => exact ⟨k + 1, F', hlt, by go_num, OX⟩
              case measure => simp [intOf]; omega
        · rw [if_neg hX, if_neg hX, doS_no hX] at DQ
          have RT2 := Lib.hid (show R.S = (runM secS (l.take (k + 1))).S from by rw [RT.out]; unfold run1; rw [if_neg hX])
          generalize doX R.S ⟨x0, x1, x2, x3, x4⟩ = xx at DQ
          unfold evV recV zeroR at DQ
          dsimp only at DQ e0 e1 e2 e3 e4
          clear hX RT DO
          go_wp2_with fail
          refine DQ.mono ?_
          rintro _ wd ⟨rfl, F', hs7, hst7⟩
          have OD := Lib.hid (show ownSt w3 _ V F' sb vb (3 * k + 3) R.S from ⟨OC.out.st.trans hst7, hs7⟩)
          have RD := Lib.hid (RC.out.step hst7)
          have BD := Lib.hid (hst7.keep (lt_of_heap BX.out) BF.out)
          have BXD := Lib.hid (BD.out.1.trans BX.out)
          have OE := Lib.hid (OD.out.ext (ext_alloc (.cells #[.int .i64 0, .string ⟨#[]⟩, .int .i64 0, .string ⟨#[]⟩, .string ⟨#[]⟩] 55) (ext_refl wd)))
          have RE := Lib.hid (RD.out.step (.of_ext F' (ext_alloc (.cells #[.int .i64 0, .string ⟨#[]⟩, .int .i64 0, .string ⟨#[]⟩, .string ⟨#[]⟩] 55) (ext_refl wd))))
          have BE := Lib.hid (((ext_iff.1 (ext_alloc (.cells #[.int .i64 0, .string ⟨#[]⟩, .int .i64 0, .string ⟨#[]⟩, .string ⟨#[]⟩] 55) (ext_refl wd))).block _ (lt_of_heap BXD.out)).trans BXD.out)
          clear hs7 hst7 DQ OC RC BX BF BD BXD OD RD e0 e1 e2 e3 e4 XC hg
          unfold errV
          go_wp2_with fail
          refine (scells_any _ V F' sb vb _ secS _ OE.out.src (by omega)).mono ?_
          rintro _ wf ⟨v3, rfl, ho3, _, hb3⟩
          have OF := Lib.hid (OE.out.ext (ext_of hb3))
          have RF := Lib.hid (RE.out.step (.of_ext F' (ext_of hb3)))
          have BF := Lib.hid ((hb3.block _ (lt_of_heap BE.out)).trans BE.out)
          obtain ⟨qn, cn, rfl⟩ := rows_shape ho3
          have NF := (cellsIn_of ho3).1
          clear ho3 hb3 OE RE BE
          obtain ⟨q', cap', hq', hci, _⟩ := RF.out
          injection hq' with hq' _ hq3
          subst hq' hq3
          have EQ := eqC_any qw qn cw cn _ _ wf (by rw [sortC_len]; have := TLR.out; omega) (by rw [sortC_len]; have := TLR.out; omega) hci NF
          rw [(allEq_cells _ _).2 rfl] at EQ
          clear hci NF RF
          generalize wb.heap.size = bx at BF ⊢
          have bxc := cellK BF.out
          have hbx := lt_of_heap BF.out
          go_wp2_with fail
          refine EQ.mono ?_
          rintro _ wg ⟨rfl, hxg⟩
          have OG := Lib.hid (OF.out.ext hxg)
          clear EQ hxg OF BF bxc hbx
          go_wp2_with fail
          refine (sfeed_any wg V F' sb vb _ secS _ OG.out.src).mono ?_
          rintro _ wh ⟨v4, rfl, ho4, hb4⟩
          obtain ⟨q4, c4, rfl⟩ := ownsRl_shape ho4
          have OH := Lib.hid ((OG.out.ext (ext_of hb4)).mono (by omega : 3 * k + 3 ≤ 3 * (k + 1)))
          rw [RT2.out] at OH
          clear ho4 hb4 OG
          go_wp2_with fail
          go_roundw
          case rel => exact ⟨k + 1, F', hlt, by go_num, OH⟩
          case measure => simp [intOf]; omega
      · obtain rfl : k = l.length := by omega
        go_wp2_with fail
        go_ret
        exact ⟨rfl, X4.out⟩
theorem sourceOwns_law (q : Option Addr) (cp : Nat) (l : List Ev) (w : World) (hG : Glob w none0) (hl : l.length ≤ 9223372036854775807) (_ : l.length ≤ cp) (h1 : evsAt w q l) (_ : q = none → l.length = 0 ∧ cp = 0) :
    Calls Tryz.prog 5 #[.slice q l.length cp] w (Res true w) := sourceOwns_any q cp l w hl h1 hG
end Go.Proofs.YtgckpfeeioljeaaGreatDoor
