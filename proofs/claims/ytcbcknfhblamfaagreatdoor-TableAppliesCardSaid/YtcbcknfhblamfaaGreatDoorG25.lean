/- oublietteref.Table.Apply (the walk): the rows that stay, and the event's, in order. -/
import Derived.Test.YtcbcknfhblamfaaGreatDoorProg
import Derived.Test.YtcbcknfhblamfaaGreatDoorG21
import Derived.Test.YtcbcknfhblamfaaGreatDoorG16
import Derived.Test.YtcbcknfhblamfaaGreatDoorG20
import Derived.Test.YtcbcknfhblamfaaGreatDoorG23
import Derived.Test.YtcbcknfhblamfaaGreatDoorG24
import Derived.Deep.DeepCutAuto
import Derived.Deep.CutBlock
namespace Go.Proofs.YtcbcknfhblamfaaGreatDoor
open Go.RowKit Go.Shelf

/-- What stands while the new list is gathered: the event's box, the list's box, the list's rows (behind both). -/
structure raI (w0 : World) (eb jb : Nat) (e : Ev) (v : Value) (F : List Cell) (w : World) : Prop where
  box : w.heap[eb]? = some (.cells (evV e) 33 (0, 0))
  l : w.heap[jb]? = some (.cells #[v] 25 (0, 0))
  own : ownsCl w (jb + 1) v F
  b : Below w0.heap.size w0 w
  lo : w0.heap.size ≤ eb ∧ eb < jb
theorem raI.ext {w0 w w' : World} {eb jb : Nat} {e : Ev} {v : Value} {F : List Cell} (h : raI w0 eb jb e v F w) (hx : ∃ x, w' = Go.Proofs.YtcbcknfhblamfaaGreatDoor.ext w x) : raI w0 eb jb e v F w' := by
  have hb := ext_iff.1 hx
  exact ⟨(hb.block eb (lt_of_heap h.box)).trans h.box, (hb.block jb (lt_of_heap h.l)).trans h.l,
    h.own.kept (row := none) ⟨hb.os, hb.tape, hb.output, hb.size, fun k hk _ => hb.block k hk⟩ (by simp), h.b.trans (hb.mono h.b.size), h.lo⟩
theorem raI.cells {w0 w : World} {eb jb : Nat} {e : Ev} {v : Value} {F : List Cell} (h : raI w0 eb jb e v F w) :
    (w.cell? ⟨eb, 0, none⟩ = some (.int .i64 e.kind) ∧ w.cell? ⟨eb, 1, none⟩ = some (.string e.subject) ∧ w.cell? ⟨eb, 2, none⟩ = some (.string e.table) ∧ w.cell? ⟨eb, 3, none⟩ = some (.string e.row) ∧ w.cell? ⟨eb, 4, none⟩ = some (.string e.value)) ∧ w.cell? ⟨jb, 0, none⟩ = some v ∧ w.frozen? ⟨jb, 0, none⟩ = false ∧ jb < w.heap.size := by
  obtain ⟨k, s, t, r, x⟩ := e
  exact ⟨ev_cells h.box, by rw [cell_in, h.l]; rfl, free_of_heap h.l 0, lt_of_heap h.l⟩
/-- A row more: the list's box is still the old one. -/
theorem raI.grown {w0 w w' : World} {eb jb : Nat} {e : Ev} {v : Value} {F : List Cell} (h : raI w0 eb jb e v F w) (hg : w.grownBy w' v.ownBlock) :
    w'.heap[eb]? = w.heap[eb]? ∧ w'.heap[jb]? = w.heap[jb]? ∧ Below w0.heap.size w0 w' := by
  have hb := fun g (hg : v.ownBlock = some g) => (h.own.base hg).1
  have hlo := h.lo
  exact ⟨hg.block eb (lt_of_heap h.box) (fun e => by have := hb eb e.symm; omega), hg.block jb (lt_of_heap h.l) (fun e => by have := hb jb e.symm; omega), h.b.grown hg h.b.size (fun g hg => by have := hb g hg; omega)⟩
theorem raI.app {w0 w w' : World} {eb jb : Nat} {e : Ev} {v v' : Value} {F F' : List Cell} (h : raI w0 eb jb e v F w) (ho : ownsCl w' (jb + 1) v' F') (hg : w.grownBy w' v.ownBlock) :
    raI w0 eb jb e v' F' (w'.setCell ⟨jb, 0, none⟩ v') := by
  have he := lt_of_heap h.box
  obtain ⟨b2, b1, B1⟩ := h.grown hg
  have hs := grown_setCell w' jb 0 v'
  have hlo := h.lo
  refine ⟨(hs.block eb (Nat.lt_of_lt_of_le he hg.size) (fun e => by injection e; omega)).trans (b2.trans h.box), by rw [heap_setCell (b1.trans h.l)]; rfl, ho.kept hs (fun g hg e => by injection e with e; have := (ho.base hg).1; omega), ?_, h.lo⟩
  exact ⟨hs.os.trans B1.os, hs.tape.trans B1.tape, hs.output.trans B1.output, Nat.le_trans B1.size hs.size, fun k hk => (hs.block k (Nat.lt_of_lt_of_le hk B1.size) (fun e => by injection e; omega)).trans (B1.block k hk)⟩
theorem goes_is (e : Ev) (x : Cell) : goesB e x = ((decide (e.kind = 1) && (x.table.toList == e.table.toList && x.row.toList == e.row.toList)) || (decide (e.kind = 2) && (x.table.toList == e.table.toList && x.row.toList == e.row.toList) && (x.subject.toList == e.subject.toList)) || (decide (e.kind = 3) && (x.subject.toList == e.subject.toList))) := by
  have te : ∀ y : ByteArray, y.toList = txt y := ByteArray.toList_eq
  have e1 : decide (ck x = ek e) = (txt x.table == txt e.table && txt x.row == txt e.row) := by unfold ck ek; rw [Bool.eq_iff_iff]; simp
  have e2 : decide (txt x.subject = txt e.subject) = (txt x.subject == txt e.subject) := by rw [Bool.eq_iff_iff]; simp
  unfold goesB
  rw [e1, e2, te, te, te, te, te, te]
set_option maxRecDepth 100000 in
set_option maxHeartbeats 8000000 in
theorem rapply_any (e : Ev) (wt : Nat) (q : Option Addr) (c : Nat) (D : List Cell) (w : World) (hD : w.heap[wt]? = some (.cells #[.slice q D.length c] 27 (0, 0))) (hr : cellsIn w q D) (hn : D.length ≤ 40)
    (hz : e.subject.size ≤ 1048576 ∧ e.table.size ≤ 1048576 ∧ e.row.size ≤ 1048576 ∧ e.value.size ≤ 1048576) (hR : rightE okR e = true) (hO : Once D) :
    Calls Tryz.prog 8 #[.pointer (some ⟨wt, 0, none⟩), .agg (evV e)] w fun r w' => r = .returned (.int .i64 0) ∧ ∃ (q' : Option Addr) (c' : Nat) (D' : List Cell), D'.Perm (refF e D) ∧ Asc D' ∧ w'.heap[wt]? = some (.cells #[.slice q' D'.length c'] 27 (0, 0)) ∧ cellsIn w' q' D' ∧ (∀ g o s, q' = some ⟨g, o, s⟩ → w.heap.size ≤ g ∧ g < w'.heap.size) ∧ w.grownBy w' (some wt) := by
  have RT := fun w => rright_any e w hz
  rw [hR] at RT
  have HD := Lib.hid hD
  have HR := Lib.hid hr
  have HO := Lib.hid hO
  have HK := Lib.hid (kind_cases hR)
  have HX0 := Lib.hid (ext_alloc (.cells (evV e) 33) (ext_refl w))
  have HB0 := Lib.hid (heap_alloc_at w (.cells (evV e) 33))
  obtain ⟨E, HE⟩ : ∃ E, Hid (E = e) := ⟨e, Lib.hid rfl⟩
  obtain ⟨ek, es, et, er, ev⟩ := e
  unfold evV at RT HX0 HB0 ⊢
  dsimp only at RT HX0 HB0 HK ⊢
  clear hD hr hO hR hz
  go_enter Tryz.func8, Tryz.ntmps8
  go_wp2_with fail
  refine (RT _).mono ?_
  rintro _ w2 ⟨rfl, hx⟩
  have X2 := Lib.hid (ext_trans HX0.out hx)
  have B2 := Lib.hid (show w2.heap[w.heap.size]? = some (.cells (evV E) 33 (0, 0)) by
    rw [HE.out]; exact ((ext_iff.1 hx).block _ (lt_of_heap HB0.out)).trans HB0.out)
  clear hx HX0 HB0
  have W2 := Lib.hid (((ext_iff.1 X2.out).block wt (lt_of_heap HD.out)).trans HD.out)
  have cw : w2.cell? ⟨wt, 0, none⟩ = some (.slice q D.length c) := by rw [cell_in, W2.out]; rfl
  have hw : wt < w2.heap.size := lt_of_heap W2.out
  go_wp2_with fail
  have I3 : Hid (raI w w.heap.size w2.heap.size E (.slice none 0 0) [] (w2.alloc (.cells #[.slice none 0 0] 25))) := Lib.hid (by
    have hs := lt_of_heap B2.out
    exact ⟨(heap_alloc_old _ _ hs).trans B2.out, heap_alloc_at _ _, ownsCl_nil _ _, ext_iff.1 (ext_alloc _ X2.out), ⟨Nat.le_refl _, hs⟩⟩)
  clear cw hw
  have W3 := Lib.hid (show (w2.alloc (.cells #[.slice none 0 0] 25)).heap.size = w2.heap.size + 1 by simp)
  generalize w2.alloc (.cells #[.slice none 0 0] 25) = w3 at I3 W3 ⊢
  generalize w2.heap.size = jb at I3 W3 ⊢
  generalize w.heap.size = eb at I3 B2 ⊢
  clear W3 B2 W2
  go_loopw [18] (fun iv wr => ∃ (k : Nat) (v : Value) (F : List Cell), k ≤ D.length ∧ iv = .int .i64 k ∧ Hid (raI w eb jb E v F wr) ∧ Hid (F = (D.take k).filter fun c => !goesB E c)) (fun iv _ => D.length - (intOf iv).toNat)
  case atStart => exact ⟨0, _, [], Nat.zero_le _, rfl, I3, Lib.hid rfl⟩
  case round =>
    clear I3
    obtain ⟨k, v, F, hk, rfl, HI, HF⟩ := hrel
    by_cases hlt : k < D.length
    · have hlt' : (k : Int) < D.length := by omega
      have hx := List.getElem?_eq_getElem hlt
      obtain ⟨gd, rfl, a0, a1, a2, a3, hgd⟩ := cellsIn_four (rows_at HR.out HI.out.b) hx
      have HXK := Lib.hid hx
      clear hx
      generalize D[k] = x at HXK a0 a1 a2 a3
      obtain ⟨xt, xr, xs, xv⟩ := x
      dsimp only at a0 a1 a2 a3
      go_upto_region 7 with fail
      have I4 := Lib.hid (HI.out.ext (ext_alloc (.cells #[.string xt, .string xr, .string xs, .string xv] 44) (ext_refl _)))
      have C4 := Lib.hid (heap_alloc_at wr (.cells #[.string xt, .string xr, .string xs, .string xv] 44))
      clear HI a0 a1 a2 a3 hgd
      generalize wr.alloc (.cells #[.string xt, .string xr, .string xs, .string xv] 44) = w4 at I4 C4 ⊢
      generalize wr.heap.size = cb at C4 ⊢
      have k0 : w4.cell? ⟨cb, 0, none⟩ = some (.string xt) := by rw [cell_in, C4.out]; rfl
      have k1 : w4.cell? ⟨cb, 1, none⟩ = some (.string xr) := by rw [cell_in, C4.out]; rfl
      have k2 : w4.cell? ⟨cb, 2, none⟩ = some (.string xs) := by rw [cell_in, C4.out]; rfl
      have k3 : w4.cell? ⟨cb, 3, none⟩ = some (.string xv) := by rw [cell_in, C4.out]; rfl
      have kl := lt_of_heap C4.out
      have EC := I4.out.cells
      rw [HE.out] at EC
      obtain ⟨⟨m0, m1, m2, m3, m4⟩, n0, n1, n2⟩ := EC
      dsimp only at m0 m1 m2 m3 m4
      have GO := Lib.hid (goes_is ⟨ek, es, et, er, ev⟩ ⟨xt, xr, xs, xv⟩)
      dsimp only at GO
      have TK := Lib.hid (show (D.take (k + 1)).filter (fun c => !goesB E c) = F ++ if goesB E ⟨xt, xr, xs, xv⟩ = true then [] else [⟨xt, xr, xs, xv⟩] by
        rw [List.take_add_one, HXK.out, List.filter_append, ← HF.out]
        congr 1
        cases hg : goesB E ⟨xt, xr, xs, xv⟩ <;> simp [hg])
      rw [HE.out] at TK
      have LF := Lib.hid (show F.length ≤ 40 by rw [HF.out]; exact Nat.le_trans (List.length_filter_le _ _) (by rw [List.length_take]; omega))
      generalize hgone : goesB ⟨ek, es, et, er, ev⟩ ⟨xt, xr, xs, xv⟩ = gone at GO TK
      clear hgone
      go_cut [8] (fun v wc => v = .bool (xt.toList == et.toList && xr.toList == er.toList) ∧ w4 = wc)
      case first =>
        cases ht : (xt.toList == et.toList) with
        | true =>
          cases hr' : (xr.toList == er.toList) with
          | true =>
            go_wp2_with fail
            go_meet
            case rel => exact ⟨by first | rfl | (rw [ht, hr']; rfl), rfl⟩
          | false =>
            go_wp2_with fail
            go_meet
            case rel => exact ⟨by first | rfl | (rw [ht, hr']; rfl), rfl⟩
        | false =>
          go_wp2_with fail
          go_meet
          case rel => exact ⟨by first | rfl | (rw [ht]; rfl), rfl⟩
      case rest =>
        obtain ⟨rfl, rfl⟩ := hcut
        generalize (xt.toList == et.toList && xr.toList == er.toList) = ow at GO ⊢
        go_upto_region 8 with fail
        go_cut [9] (fun v wc => v = .bool gone ∧ w4 = wc)
        case first =>
          have HK' := HK.out
          rcases HK' with rfl | rfl | rfl
          · cases ow with
            | true =>
              go_wp2_with fail
              go_meet
              case rel => exact ⟨by rw [GO.out]; first | (simp; done) | (simp; simpa using hs), rfl⟩
            | false =>
              go_wp2_with fail
              go_meet
              case rel => exact ⟨by rw [GO.out]; first | (simp; done) | (simp; simpa using hs), rfl⟩
          · cases ow with
            | true =>
              cases hs : (xs.toList == es.toList) with
              | true =>
                go_wp2_with fail
                go_meet
                case rel => exact ⟨by rw [GO.out]; first | (simp; done) | (simp; simpa using hs), rfl⟩
              | false =>
                go_wp2_with fail
                go_meet
                case rel => exact ⟨by rw [GO.out]; first | (simp; done) | (simp; simpa using hs), rfl⟩
            | false =>
              go_wp2_with fail
              go_meet
              case rel => exact ⟨by rw [GO.out]; first | (simp; done) | (simp; simpa using hs), rfl⟩
          · cases hs : (xs.toList == es.toList) with
            | true =>
              go_wp2_with fail
              go_meet
              case rel => exact ⟨by rw [GO.out]; first | (simp; done) | (simp; simpa using hs), rfl⟩
            | false =>
              go_wp2_with fail
              go_meet
              case rel => exact ⟨by rw [GO.out]; first | (simp; done) | (simp; simpa using hs), rfl⟩
        case rest =>
          obtain ⟨rfl, rfl⟩ := hcut
          clear GO
          cases gone with
          | true =>
            go_wp2_with fail
            go_roundw
            case rel => exact ⟨k + 1, v, F, hlt, by go_num, I4, Lib.hid (by rw [HE.out]; have := TK.out; simpa using this.symm)⟩
            case measure => simp [intOf]; omega
          | false =>
            have O4 := Lib.hid I4.out.own
            have hb9 : jb + 1 ≤ w4.heap.size := by omega
            have hlen : F.length ≤ 1099511627776 := by have := LF.out; omega
            go_wp2_with (at_builtin; go_must (refine append_cell (jb + 1) v F ⟨xt, xr, xs, xv⟩ (.tmp 69) (.tmp 71) 1 rfl rfl rfl rfl O4.out hlen hb9 ?_); clear k0 k1 k2 k3 kl m0 m1 m2 m3 m4; intro v' w' OWn g' _; obtain ⟨q', cp', rfl⟩ := rows_shape OWn; rw [List.length_append, List.length_singleton] at OWn ⊢; obtain ⟨_, g2, _⟩ := I4.out.grown g'; have I5 := Lib.hid (I4.out.app OWn g'); have n0' : w'.cell? ⟨jb, 0, none⟩ = some v := (World.cell?_of_block g2).trans n0; have n1' : w'.frozen? ⟨jb, 0, none⟩ = false := (World.frozen?_of_block g2).trans n1; have n2' : jb < w'.heap.size := Nat.lt_of_lt_of_le n2 g'.size; clear OWn g' g2 n0 n1 n2)
            go_roundw
            case rel => exact ⟨k + 1, _, _, hlt, by go_num, I5, Lib.hid (by rw [HE.out]; exact TK.out.symm)⟩
            case measure => simp [intOf]; omega
    · obtain rfl : k = D.length := by omega
      have HF' := Lib.hid (show F = D.filter (fun c => !goesB E c) by rw [HF.out, List.take_length])
      have LF := Lib.hid (show F.length ≤ 40 by rw [HF'.out]; exact Nat.le_trans (List.length_filter_le _ _) hn)
      clear HF hlt hk
      have EC := HI.out.cells
      rw [HE.out] at EC
      obtain ⟨⟨m0, m1, m2, m3, m4⟩, n0, n1, n2⟩ := EC
      dsimp only at m0 m1 m2 m3 m4
      obtain ⟨q1, c1, rfl⟩ := rows_shape HI.out.own
      go_upto_if 76 with fail
      go_cut [] (fun wc => ∃ (q2 : Option Addr) (n2 c2 : Nat) (F2 : List Cell), n2 = F2.length ∧ Hid (raI w eb jb E (.slice q2 n2 c2) F2 wc) ∧ Hid (F2 = refF E D))
      case first =>
        by_cases hk1 : ek = 1
        · subst hk1
          have O4 := Lib.hid HI.out.own
          have hb9 : jb + 1 ≤ wr.heap.size := by omega
          have hlen : F.length ≤ 1099511627776 := by have := LF.out; omega
          go_wp2_with (at_builtin; go_must (refine append_cell (jb + 1) _ F ⟨et, er, es, ev⟩ (.tmp 77) (.tmp 87) 1 rfl rfl rfl rfl O4.out hlen hb9 ?_); clear m0 m1 m2 m3 m4; intro v' w' OWn g' _; obtain ⟨q', cp', rfl⟩ := rows_shape OWn; rw [List.length_append, List.length_singleton] at OWn ⊢; obtain ⟨_, g2, _⟩ := HI.out.grown g'; have I5 := Lib.hid (HI.out.app OWn g'); have n0' : w'.cell? ⟨jb, 0, none⟩ = some (.slice q1 F.length c1) := (World.cell?_of_block g2).trans n0; have n1' : w'.frozen? ⟨jb, 0, none⟩ = false := (World.frozen?_of_block g2).trans n1; have n2' : jb < w'.heap.size := Nat.lt_of_lt_of_le n2 g'.size; clear OWn g' g2 n0 n1 n2)
          go_meet
          case rel => exact ⟨q', _, cp', _, by simp, I5, Lib.hid (by unfold refF; rw [HF'.out, HE.out]; rfl)⟩
        · have hb1 : (ek == 1) = false := by simp [hk1]
          have HK1 := Lib.hid hk1
          clear hk1
          go_wp2_with fail
          go_meet
          case rel => exact ⟨q1, _, c1, F, rfl, HI, Lib.hid (by unfold refF; rw [HF'.out, HE.out, if_neg HK1.out, List.append_nil])⟩
      case rest =>
        obtain ⟨q2, n2, c2, F2, hn2', I7, HF2⟩ := hcut
        have HN2 := Lib.hid hn2'
        clear hn2'
        have LF2 : n2 ≤ 41 := by
          have h1 : F2.length ≤ F.length + 1 := by
            rw [HF2.out, HF'.out]
            unfold refF
            rw [List.length_append]
            split <;> simp
          have := LF.out
          have := HN2.out
          omega
        have HO2 := Lib.hid (show Once F2 by rw [HF2.out]; exact refF_once HO.out)
        clear HI HF' LF m0 m1 m2 m3 m4 n0 n1
        obtain ⟨m9, n0, n1, n3⟩ := I7.out.cells
        clear m9
        go_wp2_with fail
        refine (sortF_any jb n2 c2 q2 F2 _ I7.out.own HN2.out (by omega) I7.out.l HO2.out).mono ?_
        clear n0 n1 n3
        rintro _ w8 ⟨rfl, D', hp, ha, hl, hc, r, hg, hr⟩
        have hlo := I7.out.lo
        have hwt := lt_of_heap HD.out
        have nr : ∀ k, k ≤ jb → some k ≠ r := fun k hk e => by have := hr k e.symm; omega
        have hwc : wc.heap[wt]? = w.heap[wt]? := I7.out.b.block wt hwt
        have W8 := Lib.hid ((hg.block wt (Nat.lt_of_lt_of_le hwt I7.out.b.size) (nr wt (by omega))).trans (hwc.trans HD.out))
        have J8 := Lib.hid ((hg.block jb (lt_of_heap I7.out.l) (nr jb (Nat.le_refl _))).trans I7.out.l)
        have B8 := Lib.hid (I7.out.b.grown hg I7.out.b.size (fun g e => by have := hr g e; omega))
        have Q8 := Lib.hid (show ∀ g o s, q2 = some ⟨g, o, s⟩ → w.heap.size ≤ g ∧ g ≠ wt ∧ g < w8.heap.size from fun g o s e => by
          subst e
          have hgs := hg.size
          have ho := I7.out.own.base (g := g) (by
            rcases I7.out.own with ⟨_, ⟨h1, _⟩ | ⟨g', cap, cur, h1, _⟩⟩
            · cases h1
            · injection h1 with h1 _ _
              injection h1 with h1
              injection h1 with f1 f2 f3
              subst f1 f2 f3
              rfl)
          omega)
        have R8 := Lib.hid (show D'.Perm (refF E D) by rw [← HF2.out]; exact hp)
        have A8 := Lib.hid ha
        have C8 := Lib.hid hc
        subst hl
        clear hp ha hc hg hr nr hlo hwc I7 HF2 HO2 HN2
        have k0 : w8.cell? ⟨jb, 0, none⟩ = some (.slice q2 D'.length c2) := by rw [cell_in, J8.out]; rfl
        have k1 : w8.cell? ⟨wt, 0, none⟩ = some (.slice q D.length c) := by rw [cell_in, W8.out]; rfl
        have k2 : w8.frozen? ⟨wt, 0, none⟩ = false := free_of_heap W8.out 0
        have k3 := lt_of_heap W8.out
        clear hwt LF2
        go_wp2_with fail
        clear k0 k1 k2 k3
        go_ret
        have hs := grown_setCell w8 wt 0 (.slice q2 D'.length c2)
        refine ⟨rfl, q2, c2, D', by rw [← HE.out]; exact R8.out, A8.out, by rw [heap_setCell W8.out]; rfl, ?_, fun g o s e => ⟨(Q8.out g o s e).1, Nat.lt_of_lt_of_le (Q8.out g o s e).2.2 hs.size⟩, ?_⟩
        · rcases C8.out with h0 | ⟨g, hq, hlt, hcells⟩
          · exact .inl h0
          · refine .inr ⟨g, hq, Nat.lt_of_lt_of_le hlt hs.size, fun j hj i v hi => ?_⟩
            have hne := (Q8.out g 0 none hq).2.1
            exact (World.cell?_of_block (a := ⟨g, 0 + j * 4 + i, none⟩) (hs.block g hlt (fun e => hne (by injection e)))).trans (hcells j hj i v hi)
        · exact ⟨hs.os.trans B8.out.os, hs.tape.trans B8.out.tape, hs.output.trans B8.out.output, Nat.le_trans B8.out.size hs.size, fun k hk hne => (hs.block k (Nat.lt_of_lt_of_le hk B8.out.size) hne).trans (B8.out.block k hk)⟩
end Go.Proofs.YtcbcknfhblamfaaGreatDoor
