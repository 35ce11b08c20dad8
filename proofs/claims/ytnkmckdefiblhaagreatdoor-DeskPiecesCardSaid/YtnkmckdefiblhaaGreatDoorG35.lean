/- desk: load (the walk). -/
import Derived.Test.YtnkmckdefiblhaaGreatDoorProg
import Derived.Test.YtnkmckdefiblhaaGreatDoorG31
namespace Go.Proofs.YtnkmckdefiblhaaGreatDoor
open Go.RowKit Go.Shelf

set_option maxRecDepth 100000 in
set_option maxHeartbeats 4000000 in
/-- Load, of what is nothing. -/
theorem load_zero (w : World) (vb : Nat) (q : Option Addr) (k cp : Nat) :
    Calls Tryz.prog 62 #[.pointer (some ⟨vb, 0, none⟩), .agg #[.int .i64 0, .string ⟨#[]⟩, .slice q k cp, .int .i64 0]] w fun r w' => r = .returned (.tuple #[.pointer none, errV 1]) ∧ ∃ x, w' = ext w x := by
  have GB := Lib.hid (heap_alloc_at w (.cells #[.int .i64 0, .string ⟨#[]⟩, .slice q k cp, .int .i64 0] 29))
  have XB := Lib.hid (ext_alloc (.cells #[.int .i64 0, .string ⟨#[]⟩, .slice q k cp, .int .i64 0] 29) (ext_refl w))
  go_enter Tryz.func62, Tryz.ntmps62
  go_wp2_with fail
  generalize w.alloc (.cells #[.int .i64 0, .string ⟨#[]⟩, .slice q k cp, .int .i64 0] 29) = w1 at GB XB ⊢
  generalize w.heap.size = gb at GB ⊢
  refine (rnew_any vb w1).mono ?_
  rintro _ w2 ⟨rb, D, rfl, _, _, hx2⟩
  have ha := ext_alloc (.cells #[.pointer (some ⟨rb, 0, none⟩)] 110) hx2
  have X2 := Lib.hid (ext_trans XB.out ha)
  have hg2 := ((ext_iff.1 ha).block _ (lt_of_heap GB.out)).trans GB.out
  obtain ⟨g0, g1, g2, g3⟩ := cell4 hg2
  have lg := lt_of_heap hg2
  clear hx2 ha hg2 GB XB
  go_wp2_with fail
  go_ret2
  exact ⟨rfl, X2.out⟩
/-- A new reader: a value that points at it. -/
def ldR (W : World) (vb n : Nat) (U : RdM) (mk : Nat → Value) (v : Value) (w : World) : Prop := ∃ rn Dn, v = mk rn ∧ rdIn w Dn rn vb n U ∧ step W w none0 Dn
theorem ldR.kept {W w w' : World} {vb n : Nat} {U : RdM} {mk : Nat → Value} {v : Value} (h : ldR W vb n U mk v w) (hx : ∃ x, w' = ext w x) : ldR W vb n U mk v w' := by
  obtain ⟨rn, Dn, h1, h2, h3⟩ := h
  exact ⟨rn, Dn, h1, h2.ext hx, h3.trans (.of_ext Dn hx)⟩
def frDkLa (db : Nat) (p : Option Addr) (nw : Nat) (cap : Nat) (g : Nat → Value) : Act := { tmps := #[.pointer (some ⟨db, 0, none⟩), .slice p nw cap, undef, undef, .string ⟨#[]⟩, g 5, g 6, .slice p nw cap, .tuple #[], g 9, g 10, g 11, g 12, g 13, g 14, g 15, g 16, g 17, g 18, g 19, g 20, g 21, undef, undef, undef, undef, undef, undef, undef, undef, undef, undef, undef, undef, undef, undef, undef, undef, undef], defers := [] }
def dstDkLa (i : Nat) : Nat := ([10, 11, 12, 13, 14, 15, 16, 17, 18, 19, 9, 20, 21, 5, 6] : List Nat).getD i (2000 + i)
def laysDkLa (db : Nat) (sb : Nat) (vb : Nat) (sq : Nat) (lo : Nat) (mk : ByteArray) (q : Option Addr) (nr : Nat) (c : Nat) (W : World) (nn : Nat) (U : RdM) (j : Nat) (v : Value) (w : World) : Prop :=
  match j with
  | 0 => v = .pointer (some ⟨db, 0, none⟩)
  | 1 => v = .pointer (some ⟨db, 0, none⟩)
  | 2 => v = .pointer (some ⟨db, 0, none⟩)
  | 3 => v = .pointer (some ⟨sb, 0, none⟩)
  | 4 => v = .pointer (some ⟨vb, 0, none⟩)
  | 5 => v = .pointer (some ⟨db, 0, none⟩)
  | 6 => v = .pointer (some ⟨db, 0, none⟩)
  | 7 => v = .pointer (some ⟨db, 2, none⟩)
  | 8 => v = .agg #[.int .i64 sq, .string mk, .slice q nr c, .int .i64 lo]
  | 9 => ldR W vb nn U (fun b => .tuple #[.pointer (some ⟨b, 0, none⟩), .nilIface]) v w
  | 10 => ldR W vb nn U (fun b => .tuple #[.pointer (some ⟨b, 0, none⟩), .nilIface]) v w
  | 11 => ldR W vb nn U (fun b => .pointer (some ⟨b, 0, none⟩)) v w
  | 12 => v = .nilIface
  | 13 => ldR W vb nn U (fun b => .pointer (some ⟨b, 0, none⟩)) v w
  | 14 => v = .nilIface
  | _ => True
def frDkLb (db : Nat) (p : Option Addr) (nw : Nat) (cap : Nat) (g : Nat → Value) : Act := { tmps := #[.pointer (some ⟨db, 0, none⟩), .slice p nw cap, undef, undef, .string ⟨#[]⟩, g 5, g 6, .slice p nw cap, .tuple #[], g 9, g 10, g 11, g 12, g 13, g 14, g 15, g 16, g 17, g 18, g 19, g 20, g 21, undef, undef, undef, undef, undef, undef, undef, undef, undef, undef, undef, undef, undef, undef, undef, undef, undef], defers := [] }
def dstDkLb (i : Nat) : Nat := ([10, 11, 12, 13, 14, 15, 16, 17, 18, 19, 9, 20, 21, 5, 6] : List Nat).getD i (2000 + i)
def laysDkLb (db : Nat) (sb : Nat) (vb : Nat) (q : Option Addr) (nr : Nat) (c : Nat) (j : Nat) (v : Value) (_ : World) : Prop :=
  match j with
  | 0 => v = .pointer (some ⟨db, 0, none⟩)
  | 1 => v = .pointer (some ⟨db, 0, none⟩)
  | 2 => v = .pointer (some ⟨db, 0, none⟩)
  | 3 => v = .pointer (some ⟨sb, 0, none⟩)
  | 4 => v = .pointer (some ⟨vb, 0, none⟩)
  | 5 => v = .pointer (some ⟨db, 0, none⟩)
  | 6 => v = .pointer (some ⟨db, 0, none⟩)
  | 7 => v = .pointer (some ⟨db, 2, none⟩)
  | 8 => v = .agg #[.int .i64 0, .string ⟨#[]⟩, .slice q nr c, .int .i64 0]
  | 9 => v = .tuple #[.pointer none, errV 1]
  | 10 => v = .tuple #[.pointer none, errV 1]
  | 11 => v = .pointer none
  | 12 => v = errV 1
  | 13 => v = .pointer none
  | 14 => v = errV 1
  | _ => True
set_option maxRecDepth 100000 in
set_option maxHeartbeats 4000000 in
theorem load_cmd (p : Option Addr) (ws : List ByteArray) (cap : Nat) (w : World) (A : Blk) (db n : Nat) (M : DkM) (h : cmdIn w A db n M p ws cap) :
    Calls Tryz.prog 40 #[.pointer (some ⟨db, 0, none⟩), .slice p ws.length cap] w (CmdPost (loadD M ws) w A db n) := by
  have WD := dwords_any p ws.length cap 1 w h.glob.glob.err
  by_cases hl : ws.length = 1
  case neg =>
    rw [show loadD M ws = (.er 3, M) from if_neg hl]
    have HP : Hid (∀ w', (∃ x, w' = ext w x) → CmdPost (.er 3, M) w A db n (.panicked (thrown 3)) w') := Lib.hid fun w' hx => .same h.dk hx rfl rfl
    generalize CmdPost (.er 3, M) w A db n = P at HP ⊢
    have hli : (ws.length : Int) ≠ 1 := by omega
    clear h hl
    go_enter Tryz.func40, Tryz.ntmps40
    go_wp2_with fail
    refine WD.mono ?_
    rintro e w1 ⟨_, he, hx⟩
    obtain rfl := he hli
    have X := Lib.hid hx
    clear hx WD he
    go_wp2_with fail
    exact ⟨rfl, HP.out _ X.out⟩
  case pos =>
    have hli := Lib.hid (show (ws.length : Int) = 1 by omega)
    have HL := Lib.hid hl
    unfold loadD
    rw [if_pos hl]
    obtain ⟨own, sb, vb, mb, V, rb, q, c, H, rfl⟩ := h.dk
    have HD := Lib.hid H
    obtain ⟨c0, c1, c2, c3, c4, c5, lt⟩ := six_at H.blk
    have G := Lib.hid h.glob
    have IV := Lib.hid h.inv
    have SMW := Lib.hid h.small
    have hn := h.n_
    have hpos : 0 < ws.length := by omega
    obtain ⟨g, o, rfl, hg, hw⟩ := words_one h.words (by omega)
    have HW := Lib.hid h.words
    clear h c0 c1 c2 c3 c4 c5 hl
    by_cases hm : M.k.mark.size = 16
    case pos =>
      rw [if_pos hm]
      have hk : SvOk M.S.L M.k := IV.out.sv.resolve_left (fun e => by rw [e] at hm; cases hm)
      have LA : ∀ W, (∃ x, W = ext w x) → _ := fun W hx => load_any W vb M.k.seq M.k.lost M.k.mark q c M.k.rows (HD.out.ext hx).rows hk.asc hk.right (by have := hk.few; have := hk.sq; have := IV.out.len; omega) hk.lost (by have := hk.sq; have := IV.out.len; omega) hm
        (fun e => by
          refine ⟨by have := hk.mark; rw [e] at this; exact this, List.eq_nil_of_length_eq_zero (by have := hk.few; omega)⟩)
      have hkq : M.k.seq ≤ 100 := by have := hk.sq; have := IV.out.len; omega
      have hkr : M.k.rows.length ≤ 100 := by have := hk.few; omega
      have IT := fun w3 hG => itoa_any (M.k.seq : Nat) w3 (F := none0) hG (by omega) (by omega)
      have his := itoa_size (M.k.seq : Nat) (by omega) (by omega)
      have hsz := wd0_size SMW.out
      generalize hs0 : wd0 ws = s at *
      have HS0 := Lib.hid hs0
      clear hm hk hs0
      go_enter Tryz.func40, Tryz.ntmps40
      go_wp2_with fail
      refine WD.mono ?_
      rintro e w1 ⟨he, _, hx⟩
      obtain rfl := he hli.out
      have X := Lib.hid hx
      have H1 := Lib.hid (HD.out.ext hx)
      have LA := Lib.hid fun W (hy : ∃ x, W = ext w1 x) => LA W (ext_trans hx hy)
      have hb1 := ext_iff.1 hx
      have e0 : w1.cell? ⟨g, o, none⟩ = _ := cell_below hb1 hg hw
      have lg1 : g < w1.heap.size := Nat.lt_of_lt_of_le hg hb1.size
      have E0 := Lib.hid e0
      have LG := Lib.hid lg1
      clear hx WD he hb1 e0 lg1 hw hg
      go_wp2_with fail
      generalize w1 = wr at *
      refine wp_region_slots (frDkLa db (some ⟨g, o, none⟩) ws.length cap) dstDkLa (fun _ => undef) (laysDkLa db sb vb M.k.seq M.k.lost M.k.mark q M.k.rows.length c wr M.k.rows.length (rdOf M.k)) (fun L g w => ∃ x, w = ext wr x) (fun w w' => ∃ x, w' = ext w x) (by kernel_rfl) (by kernel_rfl) rfl ?_ (by kernel_rfl) (ext_drew (ext_refl _)) ?_ ?_
      · exact fun j v w w' h hr => by unfold laysDkLa at hr ⊢; split at hr <;> first | exact hr | exact ldR.kept hr h
      · refine ⟨?_, ?_, ?_, ?_, ?_, ?_, ?_, ?_, ?_, ?_, ?_, ?_, ?_, ?_, ?_, trivial⟩
        all_goals (intro L gs w1 hLi hdeps hR hC; refine ends_of fun Q hQ => ?_)
        · have HQ := fun (a' : Act) (va : Value) (w' : World) (h1 : a' = frDkLa db (some ⟨g, o, none⟩) ws.length cap (upd1 gs 10 va)) h2 (h3 : laysDkLa db sb vb M.k.seq M.k.lost M.k.mark q M.k.rows.length c wr M.k.rows.length (rdOf M.k) 0 va w') h4 => hQ.out a' w' ⟨va, h1, h2, h3, h4⟩
          unfold frDkLa
          go_wp2_with fail
          exact HQ _ (.pointer (some ⟨db, 0, none⟩)) _ (by simp only [frDkLa, upd1, Nat.reduceEqDiff, reduceIte]) (ext_refl _) rfl hC
        · have HQ := fun (a' : Act) (va : Value) (w' : World) (h1 : a' = frDkLa db (some ⟨g, o, none⟩) ws.length cap (upd1 gs 11 va)) h2 (h3 : laysDkLa db sb vb M.k.seq M.k.lost M.k.mark q M.k.rows.length c wr M.k.rows.length (rdOf M.k) 1 va w') h4 => hQ.out a' w' ⟨va, h1, h2, h3, h4⟩
          have r0 : gs 10 = .pointer (some ⟨db, 0, none⟩) := hR 0 (hdeps ⟨0, .data⟩ (by simp) rfl)
          unfold frDkLa
          go_wp2_with fail
          exact HQ _ (.pointer (some ⟨db, 0, none⟩)) _ (by simp only [frDkLa, upd1, r0, Nat.reduceEqDiff, reduceIte]) (ext_refl _) rfl hC
        · have HQ := fun (a' : Act) (va : Value) (w' : World) (h1 : a' = frDkLa db (some ⟨g, o, none⟩) ws.length cap (upd1 gs 12 va)) h2 (h3 : laysDkLa db sb vb M.k.seq M.k.lost M.k.mark q M.k.rows.length c wr M.k.rows.length (rdOf M.k) 2 va w') h4 => hQ.out a' w' ⟨va, h1, h2, h3, h4⟩
          have r1 : gs 11 = .pointer (some ⟨db, 0, none⟩) := hR 1 (hdeps ⟨1, .data⟩ (by simp) rfl)
          unfold frDkLa
          go_wp2_with fail
          exact HQ _ (.pointer (some ⟨db, 0, none⟩)) _ (by simp only [frDkLa, upd1, r1, Nat.reduceEqDiff, reduceIte]) (ext_refl _) rfl hC
        · have HQ := fun (a' : Act) (va : Value) (w' : World) (h1 : a' = frDkLa db (some ⟨g, o, none⟩) ws.length cap (upd1 gs 13 va)) h2 (h3 : laysDkLa db sb vb M.k.seq M.k.lost M.k.mark q M.k.rows.length c wr M.k.rows.length (rdOf M.k) 3 va w') h4 => hQ.out a' w' ⟨va, h1, h2, h3, h4⟩
          have r2 : gs 12 = .pointer (some ⟨db, 0, none⟩) := hR 2 (hdeps ⟨2, .data⟩ (by simp) rfl)
          have hb0 := ((ext_iff.1 hC).block _ (lt_of_heap H1.out.blk)).trans H1.out.blk
          obtain ⟨c0, c1, c2, c3, c4, c5, lw1⟩ := six_at hb0
          clear hb0
          unfold frDkLa
          go_wp2_with fail
          exact HQ _ (.pointer (some ⟨sb, 0, none⟩)) _ (by simp only [frDkLa, upd1, r2, Nat.reduceEqDiff, reduceIte]) (ext_refl _) rfl hC
        · have HQ := fun (a' : Act) (va : Value) (w' : World) (h1 : a' = frDkLa db (some ⟨g, o, none⟩) ws.length cap (upd1 gs 14 va)) h2 (h3 : laysDkLa db sb vb M.k.seq M.k.lost M.k.mark q M.k.rows.length c wr M.k.rows.length (rdOf M.k) 4 va w') h4 => hQ.out a' w' ⟨va, h1, h2, h3, h4⟩
          have r3 : gs 13 = .pointer (some ⟨sb, 0, none⟩) := hR 3 (hdeps ⟨3, .data⟩ (by simp) rfl)
          unfold frDkLa
          go_wp2_with fail
          refine (svault_any w1 V (own .f) sb vb n M.sec M.S (H1.out.ext hC).src).mono ?_
          rintro _ _ ⟨rfl, rfl⟩
          go_wp2_with fail
          exact HQ _ (.pointer (some ⟨vb, 0, none⟩)) _ (by simp only [frDkLa, upd1, r3, Nat.reduceEqDiff, reduceIte]) (ext_refl _) rfl hC
        · have HQ := fun (a' : Act) (va : Value) (w' : World) (h1 : a' = frDkLa db (some ⟨g, o, none⟩) ws.length cap (upd1 gs 15 va)) h2 (h3 : laysDkLa db sb vb M.k.seq M.k.lost M.k.mark q M.k.rows.length c wr M.k.rows.length (rdOf M.k) 5 va w') h4 => hQ.out a' w' ⟨va, h1, h2, h3, h4⟩
          unfold frDkLa
          go_wp2_with fail
          exact HQ _ (.pointer (some ⟨db, 0, none⟩)) _ (by simp only [frDkLa, upd1, Nat.reduceEqDiff, reduceIte]) (ext_refl _) rfl hC
        · have HQ := fun (a' : Act) (va : Value) (w' : World) (h1 : a' = frDkLa db (some ⟨g, o, none⟩) ws.length cap (upd1 gs 16 va)) h2 (h3 : laysDkLa db sb vb M.k.seq M.k.lost M.k.mark q M.k.rows.length c wr M.k.rows.length (rdOf M.k) 6 va w') h4 => hQ.out a' w' ⟨va, h1, h2, h3, h4⟩
          have r5 : gs 15 = .pointer (some ⟨db, 0, none⟩) := hR 5 (hdeps ⟨5, .data⟩ (by simp) rfl)
          unfold frDkLa
          go_wp2_with fail
          exact HQ _ (.pointer (some ⟨db, 0, none⟩)) _ (by simp only [frDkLa, upd1, r5, Nat.reduceEqDiff, reduceIte]) (ext_refl _) rfl hC
        · have HQ := fun (a' : Act) (va : Value) (w' : World) (h1 : a' = frDkLa db (some ⟨g, o, none⟩) ws.length cap (upd1 gs 17 va)) h2 (h3 : laysDkLa db sb vb M.k.seq M.k.lost M.k.mark q M.k.rows.length c wr M.k.rows.length (rdOf M.k) 7 va w') h4 => hQ.out a' w' ⟨va, h1, h2, h3, h4⟩
          have r6 : gs 16 = .pointer (some ⟨db, 0, none⟩) := hR 6 (hdeps ⟨6, .data⟩ (by simp) rfl)
          unfold frDkLa
          go_wp2_with fail
          exact HQ _ (.pointer (some ⟨db, 2, none⟩)) _ (by simp only [frDkLa, upd1, r6, Nat.reduceEqDiff, reduceIte]) (ext_refl _) rfl hC
        · have HQ := fun (a' : Act) (va : Value) (w' : World) (h1 : a' = frDkLa db (some ⟨g, o, none⟩) ws.length cap (upd1 gs 18 va)) h2 (h3 : laysDkLa db sb vb M.k.seq M.k.lost M.k.mark q M.k.rows.length c wr M.k.rows.length (rdOf M.k) 8 va w') h4 => hQ.out a' w' ⟨va, h1, h2, h3, h4⟩
          have r7 : gs 17 = .pointer (some ⟨db, 2, none⟩) := hR 7 (hdeps ⟨7, .data⟩ (by simp) rfl)
          have hb0 := ((ext_iff.1 hC).block _ (lt_of_heap H1.out.blk)).trans H1.out.blk
          obtain ⟨c0, c1, c2, c3, c4, c5, lw1⟩ := six_at hb0
          clear hb0
          unfold frDkLa
          go_wp2_with fail
          exact HQ _ (.agg #[.int .i64 M.k.seq, .string M.k.mark, .slice q M.k.rows.length c, .int .i64 M.k.lost]) _ (by simp only [frDkLa, upd1, r7, Nat.reduceEqDiff, reduceIte]) (ext_refl _) rfl hC
        · have HQ := fun (a' : Act) (va : Value) (w' : World) (h1 : a' = frDkLa db (some ⟨g, o, none⟩) ws.length cap (upd1 gs 19 va)) h2 (h3 : laysDkLa db sb vb M.k.seq M.k.lost M.k.mark q M.k.rows.length c wr M.k.rows.length (rdOf M.k) 9 va w') h4 => hQ.out a' w' ⟨va, h1, h2, h3, h4⟩
          have r4 : gs 14 = .pointer (some ⟨vb, 0, none⟩) := hR 4 (hdeps ⟨4, .data⟩ (by simp) rfl)
          have r8 : gs 18 = .agg #[.int .i64 M.k.seq, .string M.k.mark, .slice q M.k.rows.length c, .int .i64 M.k.lost] := hR 8 (hdeps ⟨8, .data⟩ (by simp) rfl)
          unfold frDkLa
          go_wp2_with fail
          refine (LA.out w1 hC).mono ?_
          rintro _ w5 ⟨rn, Dn, rfl, hr2, hs2⟩
          go_wp2_with fail
          exact HQ _ (.tuple #[.pointer (some ⟨rn, 0, none⟩), .nilIface]) _ (by simp only [frDkLa, upd1, r4, r8, Nat.reduceEqDiff, reduceIte]) hs2.ext ⟨rn, Dn, rfl, hr2, (step.of_ext none0 hC).trans hs2⟩ (ext_trans hC hs2.ext)
        · have HQ := fun (a' : Act) (va : Value) (w' : World) (h1 : a' = frDkLa db (some ⟨g, o, none⟩) ws.length cap (upd1 gs 9 va)) h2 (h3 : laysDkLa db sb vb M.k.seq M.k.lost M.k.mark q M.k.rows.length c wr M.k.rows.length (rdOf M.k) 10 va w') h4 => hQ.out a' w' ⟨va, h1, h2, h3, h4⟩
          have r9 := hR 9 (hdeps ⟨9, .data⟩ (by simp) rfl)
          obtain ⟨rn, Dn, hv, hr2, hs2⟩ := r9
          change gs 19 = _ at hv
          unfold frDkLa
          go_wp2_with fail
          exact HQ _ (.tuple #[.pointer (some ⟨rn, 0, none⟩), .nilIface]) _ (by simp only [frDkLa, upd1, hv, Nat.reduceEqDiff, reduceIte]) (ext_refl _) ⟨rn, Dn, rfl, hr2, hs2⟩ hC
        · have HQ := fun (a' : Act) (va : Value) (w' : World) (h1 : a' = frDkLa db (some ⟨g, o, none⟩) ws.length cap (upd1 gs 20 va)) h2 (h3 : laysDkLa db sb vb M.k.seq M.k.lost M.k.mark q M.k.rows.length c wr M.k.rows.length (rdOf M.k) 11 va w') h4 => hQ.out a' w' ⟨va, h1, h2, h3, h4⟩
          have r10 := hR 10 (hdeps ⟨10, .data⟩ (by simp) rfl)
          obtain ⟨rn, Dn, hv, hr2, hs2⟩ := r10
          change gs 9 = _ at hv
          unfold frDkLa
          go_wp2_with fail
          exact HQ _ (.pointer (some ⟨rn, 0, none⟩)) _ (by simp only [frDkLa, upd1, hv, Nat.reduceEqDiff, reduceIte]) (ext_refl _) ⟨rn, Dn, rfl, hr2, hs2⟩ hC
        · have HQ := fun (a' : Act) (va : Value) (w' : World) (h1 : a' = frDkLa db (some ⟨g, o, none⟩) ws.length cap (upd1 gs 21 va)) h2 (h3 : laysDkLa db sb vb M.k.seq M.k.lost M.k.mark q M.k.rows.length c wr M.k.rows.length (rdOf M.k) 12 va w') h4 => hQ.out a' w' ⟨va, h1, h2, h3, h4⟩
          have r10 := hR 10 (hdeps ⟨10, .data⟩ (by simp) rfl)
          obtain ⟨rn, Dn, hv, hr2, hs2⟩ := r10
          change gs 9 = _ at hv
          unfold frDkLa
          go_wp2_with fail
          exact HQ _ (.nilIface) _ (by simp only [frDkLa, upd1, hv, Nat.reduceEqDiff, reduceIte]) (ext_refl _) rfl hC
        · have HQ := fun (a' : Act) (va : Value) (w' : World) (h1 : a' = frDkLa db (some ⟨g, o, none⟩) ws.length cap (upd1 gs 5 va)) h2 (h3 : laysDkLa db sb vb M.k.seq M.k.lost M.k.mark q M.k.rows.length c wr M.k.rows.length (rdOf M.k) 13 va w') h4 => hQ.out a' w' ⟨va, h1, h2, h3, h4⟩
          have r11 := hR 11 (hdeps ⟨11, .data⟩ (by simp) rfl)
          obtain ⟨rn, Dn, hv, hr2, hs2⟩ := r11
          change gs 20 = _ at hv
          unfold frDkLa
          go_wp2_with fail
          exact HQ _ (.pointer (some ⟨rn, 0, none⟩)) _ (by simp only [frDkLa, upd1, hv, Nat.reduceEqDiff, reduceIte]) (ext_refl _) ⟨rn, Dn, rfl, hr2, hs2⟩ hC
        · have HQ := fun (a' : Act) (va : Value) (w' : World) (h1 : a' = frDkLa db (some ⟨g, o, none⟩) ws.length cap (upd1 gs 6 va)) h2 (h3 : laysDkLa db sb vb M.k.seq M.k.lost M.k.mark q M.k.rows.length c wr M.k.rows.length (rdOf M.k) 14 va w') h4 => hQ.out a' w' ⟨va, h1, h2, h3, h4⟩
          have r12 : gs 21 = .nilIface := hR 12 (hdeps ⟨12, .data⟩ (by simp) rfl)
          unfold frDkLa
          go_wp2_with fail
          exact HQ _ (.nilIface) _ (by simp only [frDkLa, upd1, r12, Nat.reduceEqDiff, reduceIte]) (ext_refl _) rfl hC
      intro L7 g7 w8 hall hR hC
      obtain ⟨rn, Dn, hv, hr8, hs8⟩ := hR 13 (by decide)
      change g7 5 = _ at hv
      have s6 : g7 6 = .nilIface := hR 14 (by decide)
      have R8 := Lib.hid hr8
      have S8 := Lib.hid hs8
      clear hR hC hall hr8 hs8
      unfold frDkLa
      rw [hv, s6]
      clear hv s6
      go_wp2_with fail
      refine (must_ok w8).mono ?_
      rintro _ _ ⟨rfl, rfl⟩
      have hb8 := S8.out.below
      have e0 : w8.cell? ⟨g, o, none⟩ = _ := cell_below hb8 LG.out E0.out
      have lg : g < w8.heap.size := Nat.lt_of_lt_of_le LG.out hb8.size
      have hd8 := (hb8.block _ (lt_of_heap H1.out.blk)).trans H1.out.blk
      obtain ⟨c0, c1, c2, c3, c4, c5, lt8⟩ := six_at hd8
      clear c0 c2 c3 c4 c5 hb8 hd8
      go_wp2_with fail
      refine wp_region_tail 8 (by kernel_rfl) (by kernel_rfl) ?_
      simp only [List.take_succ_cons, List.take_zero, List.drop_succ_cons, List.drop_zero]
      repeat (go_big_quiet_step (fail))
      refine wpQuiet_nil ?_
      rintro _ ⟨x, rfl⟩
      have HX8 := Lib.hid (show ∃ y, ext w8 x = ext w8 y from ⟨x, rfl⟩)
      generalize ext w8 x = wx at HX8 ⊢
      clear c1 e0 lg lt8
      obtain ⟨w9, hrun, hg9, hst, h9⟩ := H1.out.putR (n' := n + 150) (s := s) (by omega) ((R8.out.ext HX8.out).mono (by omega)) (S8.out.trans (.of_ext _ HX8.out)) (by unfold maxLen; omega) (by unfold maxLen; omega)
      have H9 := Lib.hid h9
      have S9 := Lib.hid ((step.of_ext (whole own) X.out).trans hst)
      clear hg9 hst h9
      obtain ⟨c0, c1, c2, c3, c4, c5, lt9⟩ := six_at H9.out.blk
      change w9.cell? ⟨db, 2, none⟩ = some (.int .i64 M.k.seq) at c2
      clear c0 c1 c3 c4 c5
      go_wp2_with fail
      refine (IT w9 ((G.out.step S9.out).sub (fun i h => h.elim))).mono ?_
      rintro _ w10 ⟨rfl, hx⟩
      have X10 := Lib.hid hx
      clear hx IT
      go_wp2_with fail
      go_ret
      exact .of (H9.out.ext X10.out) (by omega) (S9.out.trans (.of_ext _ X10.out)) rfl
    case neg =>
      rw [if_neg hm]
      have hk : M.k = SV0 := IV.out.sv.resolve_right (fun e => hm e.mark16)
      have HK := Lib.hid hk
      have HP : Hid (∀ w', (∃ x, w' = ext w x) → CmdPost (.er 1, M) w (whole own) db n (.panicked (thrown 1)) w') := Lib.hid fun w' hx => .same ⟨own, sb, vb, mb, V, rb, q, c, HD.out, rfl⟩ hx rfl rfl
      generalize CmdPost (.er 1, M) w (whole own) db n = P at HP ⊢
      have MB := fun w hE => must_bad 1 w hE
      unfold errV at MB
      clear hm hk
      go_enter Tryz.func40, Tryz.ntmps40
      go_wp2_with fail
      refine WD.mono ?_
      rintro e w1 ⟨he, _, hx⟩
      obtain rfl := he hli.out
      have X := Lib.hid hx
      have H1 := Lib.hid (HD.out.ext hx)
      clear hx WD he hw hg
      go_wp2_with fail
      generalize w1 = wr at *
      refine wp_region_slots (frDkLb db (some ⟨g, o, none⟩) ws.length cap) dstDkLb (fun _ => undef) (laysDkLb db sb vb q 0 c) (fun L g w => ∃ x, w = ext wr x) (fun w w' => True) (by kernel_rfl) (by kernel_rfl) rfl ?_ (by kernel_rfl) (ext_drew (ext_refl _)) ?_ ?_
      · exact fun _ _ _ _ _ h => h
      · refine ⟨?_, ?_, ?_, ?_, ?_, ?_, ?_, ?_, ?_, ?_, ?_, ?_, ?_, ?_, ?_, trivial⟩
        all_goals (intro L gs w1 hLi hdeps hR hC; refine ends_of fun Q hQ => ?_)
        · have HQ := fun (a' : Act) (va : Value) (w' : World) (h1 : a' = frDkLb db (some ⟨g, o, none⟩) ws.length cap (upd1 gs 10 va)) h2 (h3 : laysDkLb db sb vb q 0 c 0 va w') h4 => hQ.out a' w' ⟨va, h1, h2, h3, h4⟩
          unfold frDkLb
          go_wp2_with fail
          exact HQ _ (.pointer (some ⟨db, 0, none⟩)) _ (by simp only [frDkLb, upd1, Nat.reduceEqDiff, reduceIte]) trivial rfl hC
        · have HQ := fun (a' : Act) (va : Value) (w' : World) (h1 : a' = frDkLb db (some ⟨g, o, none⟩) ws.length cap (upd1 gs 11 va)) h2 (h3 : laysDkLb db sb vb q 0 c 1 va w') h4 => hQ.out a' w' ⟨va, h1, h2, h3, h4⟩
          have r0 : gs 10 = .pointer (some ⟨db, 0, none⟩) := hR 0 (hdeps ⟨0, .data⟩ (by simp) rfl)
          unfold frDkLb
          go_wp2_with fail
          exact HQ _ (.pointer (some ⟨db, 0, none⟩)) _ (by simp only [frDkLb, upd1, r0, Nat.reduceEqDiff, reduceIte]) trivial rfl hC
        · have HQ := fun (a' : Act) (va : Value) (w' : World) (h1 : a' = frDkLb db (some ⟨g, o, none⟩) ws.length cap (upd1 gs 12 va)) h2 (h3 : laysDkLb db sb vb q 0 c 2 va w') h4 => hQ.out a' w' ⟨va, h1, h2, h3, h4⟩
          have r1 : gs 11 = .pointer (some ⟨db, 0, none⟩) := hR 1 (hdeps ⟨1, .data⟩ (by simp) rfl)
          unfold frDkLb
          go_wp2_with fail
          exact HQ _ (.pointer (some ⟨db, 0, none⟩)) _ (by simp only [frDkLb, upd1, r1, Nat.reduceEqDiff, reduceIte]) trivial rfl hC
        · have HQ := fun (a' : Act) (va : Value) (w' : World) (h1 : a' = frDkLb db (some ⟨g, o, none⟩) ws.length cap (upd1 gs 13 va)) h2 (h3 : laysDkLb db sb vb q 0 c 3 va w') h4 => hQ.out a' w' ⟨va, h1, h2, h3, h4⟩
          have r2 : gs 12 = .pointer (some ⟨db, 0, none⟩) := hR 2 (hdeps ⟨2, .data⟩ (by simp) rfl)
          have hb0 := ((ext_iff.1 hC).block _ (lt_of_heap H1.out.blk)).trans H1.out.blk
          rw [HK.out] at hb0
          change w1.heap[db]? = some (.cells #[.pointer (some ⟨sb, 0, none⟩), .map (some mb), .int .i64 0, .string ⟨#[]⟩, .slice q 0 c, .int .i64 0] 31 (0, 0)) at hb0
          obtain ⟨c0, c1, c2, c3, c4, c5, lw1⟩ := six_at hb0
          clear hb0
          unfold frDkLb
          go_wp2_with fail
          exact HQ _ (.pointer (some ⟨sb, 0, none⟩)) _ (by simp only [frDkLb, upd1, r2, Nat.reduceEqDiff, reduceIte]) trivial rfl hC
        · have HQ := fun (a' : Act) (va : Value) (w' : World) (h1 : a' = frDkLb db (some ⟨g, o, none⟩) ws.length cap (upd1 gs 14 va)) h2 (h3 : laysDkLb db sb vb q 0 c 4 va w') h4 => hQ.out a' w' ⟨va, h1, h2, h3, h4⟩
          have r3 : gs 13 = .pointer (some ⟨sb, 0, none⟩) := hR 3 (hdeps ⟨3, .data⟩ (by simp) rfl)
          unfold frDkLb
          go_wp2_with fail
          refine (svault_any w1 V (own .f) sb vb n M.sec M.S (H1.out.ext hC).src).mono ?_
          rintro _ _ ⟨rfl, rfl⟩
          go_wp2_with fail
          exact HQ _ (.pointer (some ⟨vb, 0, none⟩)) _ (by simp only [frDkLb, upd1, r3, Nat.reduceEqDiff, reduceIte]) trivial rfl hC
        · have HQ := fun (a' : Act) (va : Value) (w' : World) (h1 : a' = frDkLb db (some ⟨g, o, none⟩) ws.length cap (upd1 gs 15 va)) h2 (h3 : laysDkLb db sb vb q 0 c 5 va w') h4 => hQ.out a' w' ⟨va, h1, h2, h3, h4⟩
          unfold frDkLb
          go_wp2_with fail
          exact HQ _ (.pointer (some ⟨db, 0, none⟩)) _ (by simp only [frDkLb, upd1, Nat.reduceEqDiff, reduceIte]) trivial rfl hC
        · have HQ := fun (a' : Act) (va : Value) (w' : World) (h1 : a' = frDkLb db (some ⟨g, o, none⟩) ws.length cap (upd1 gs 16 va)) h2 (h3 : laysDkLb db sb vb q 0 c 6 va w') h4 => hQ.out a' w' ⟨va, h1, h2, h3, h4⟩
          have r5 : gs 15 = .pointer (some ⟨db, 0, none⟩) := hR 5 (hdeps ⟨5, .data⟩ (by simp) rfl)
          unfold frDkLb
          go_wp2_with fail
          exact HQ _ (.pointer (some ⟨db, 0, none⟩)) _ (by simp only [frDkLb, upd1, r5, Nat.reduceEqDiff, reduceIte]) trivial rfl hC
        · have HQ := fun (a' : Act) (va : Value) (w' : World) (h1 : a' = frDkLb db (some ⟨g, o, none⟩) ws.length cap (upd1 gs 17 va)) h2 (h3 : laysDkLb db sb vb q 0 c 7 va w') h4 => hQ.out a' w' ⟨va, h1, h2, h3, h4⟩
          have r6 : gs 16 = .pointer (some ⟨db, 0, none⟩) := hR 6 (hdeps ⟨6, .data⟩ (by simp) rfl)
          unfold frDkLb
          go_wp2_with fail
          exact HQ _ (.pointer (some ⟨db, 2, none⟩)) _ (by simp only [frDkLb, upd1, r6, Nat.reduceEqDiff, reduceIte]) trivial rfl hC
        · have HQ := fun (a' : Act) (va : Value) (w' : World) (h1 : a' = frDkLb db (some ⟨g, o, none⟩) ws.length cap (upd1 gs 18 va)) h2 (h3 : laysDkLb db sb vb q 0 c 8 va w') h4 => hQ.out a' w' ⟨va, h1, h2, h3, h4⟩
          have r7 : gs 17 = .pointer (some ⟨db, 2, none⟩) := hR 7 (hdeps ⟨7, .data⟩ (by simp) rfl)
          have hb0 := ((ext_iff.1 hC).block _ (lt_of_heap H1.out.blk)).trans H1.out.blk
          rw [HK.out] at hb0
          change w1.heap[db]? = some (.cells #[.pointer (some ⟨sb, 0, none⟩), .map (some mb), .int .i64 0, .string ⟨#[]⟩, .slice q 0 c, .int .i64 0] 31 (0, 0)) at hb0
          obtain ⟨c0, c1, c2, c3, c4, c5, lw1⟩ := six_at hb0
          clear hb0
          unfold frDkLb
          go_wp2_with fail
          exact HQ _ (.agg #[.int .i64 0, .string ⟨#[]⟩, .slice q 0 c, .int .i64 0]) _ (by simp only [frDkLb, upd1, r7, Nat.reduceEqDiff, reduceIte]) trivial rfl hC
        · have HQ := fun (a' : Act) (va : Value) (w' : World) (h1 : a' = frDkLb db (some ⟨g, o, none⟩) ws.length cap (upd1 gs 19 va)) h2 (h3 : laysDkLb db sb vb q 0 c 9 va w') h4 => hQ.out a' w' ⟨va, h1, h2, h3, h4⟩
          have r4 : gs 14 = .pointer (some ⟨vb, 0, none⟩) := hR 4 (hdeps ⟨4, .data⟩ (by simp) rfl)
          have r8 : gs 18 = .agg #[.int .i64 0, .string ⟨#[]⟩, .slice q 0 c, .int .i64 0] := hR 8 (hdeps ⟨8, .data⟩ (by simp) rfl)
          unfold frDkLb
          go_wp2_with fail
          refine (load_zero w1 vb q 0 c).mono ?_
          rintro _ w5 ⟨rfl, hx⟩
          go_wp2_with fail
          exact HQ _ (.tuple #[.pointer none, errV 1]) _ (by simp only [frDkLb, upd1, r4, r8, Nat.reduceEqDiff, reduceIte]) trivial rfl (ext_trans hC hx)
        · have HQ := fun (a' : Act) (va : Value) (w' : World) (h1 : a' = frDkLb db (some ⟨g, o, none⟩) ws.length cap (upd1 gs 9 va)) h2 (h3 : laysDkLb db sb vb q 0 c 10 va w') h4 => hQ.out a' w' ⟨va, h1, h2, h3, h4⟩
          have r9 : gs 19 = .tuple #[.pointer none, errV 1] := hR 9 (hdeps ⟨9, .data⟩ (by simp) rfl)
          unfold frDkLb
          go_wp2_with fail
          exact HQ _ (.tuple #[.pointer none, errV 1]) _ (by simp only [frDkLb, upd1, r9, Nat.reduceEqDiff, reduceIte]) trivial rfl hC
        · have HQ := fun (a' : Act) (va : Value) (w' : World) (h1 : a' = frDkLb db (some ⟨g, o, none⟩) ws.length cap (upd1 gs 20 va)) h2 (h3 : laysDkLb db sb vb q 0 c 11 va w') h4 => hQ.out a' w' ⟨va, h1, h2, h3, h4⟩
          have r10 : gs 9 = .tuple #[.pointer none, errV 1] := hR 10 (hdeps ⟨10, .data⟩ (by simp) rfl)
          unfold frDkLb
          go_wp2_with fail
          exact HQ _ (.pointer none) _ (by simp only [frDkLb, upd1, r10, Nat.reduceEqDiff, reduceIte]) trivial rfl hC
        · have HQ := fun (a' : Act) (va : Value) (w' : World) (h1 : a' = frDkLb db (some ⟨g, o, none⟩) ws.length cap (upd1 gs 21 va)) h2 (h3 : laysDkLb db sb vb q 0 c 12 va w') h4 => hQ.out a' w' ⟨va, h1, h2, h3, h4⟩
          have r10 : gs 9 = .tuple #[.pointer none, errV 1] := hR 10 (hdeps ⟨10, .data⟩ (by simp) rfl)
          unfold frDkLb
          go_wp2_with fail
          exact HQ _ (errV 1) _ (by simp only [frDkLb, upd1, r10, Nat.reduceEqDiff, reduceIte]) trivial rfl hC
        · have HQ := fun (a' : Act) (va : Value) (w' : World) (h1 : a' = frDkLb db (some ⟨g, o, none⟩) ws.length cap (upd1 gs 5 va)) h2 (h3 : laysDkLb db sb vb q 0 c 13 va w') h4 => hQ.out a' w' ⟨va, h1, h2, h3, h4⟩
          have r11 : gs 20 = .pointer none := hR 11 (hdeps ⟨11, .data⟩ (by simp) rfl)
          unfold frDkLb
          go_wp2_with fail
          exact HQ _ (.pointer none) _ (by simp only [frDkLb, upd1, r11, Nat.reduceEqDiff, reduceIte]) trivial rfl hC
        · have HQ := fun (a' : Act) (va : Value) (w' : World) (h1 : a' = frDkLb db (some ⟨g, o, none⟩) ws.length cap (upd1 gs 6 va)) h2 (h3 : laysDkLb db sb vb q 0 c 14 va w') h4 => hQ.out a' w' ⟨va, h1, h2, h3, h4⟩
          have r12 : gs 21 = errV 1 := hR 12 (hdeps ⟨12, .data⟩ (by simp) rfl)
          unfold frDkLb
          go_wp2_with fail
          exact HQ _ (errV 1) _ (by simp only [frDkLb, upd1, r12, Nat.reduceEqDiff, reduceIte]) trivial rfl hC
      intro L7 g7 w8 hall hR hC
      have s6 : g7 6 = errV 1 := hR 14 (by decide)
      have X8 := Lib.hid (ext_trans X.out hC)
      clear hR hC hall
      unfold frDkLb
      rw [s6]
      clear s6
      unfold errV
      go_wp2_with fail
      refine (MB _ (G.out.ext X8.out).glob.err).mono ?_
      rintro _ w9 ⟨rfl, hx⟩
      have X9 := Lib.hid (ext_trans X8.out hx)
      clear hx MB
      go_wp2_with fail
      exact ⟨rfl, HP.out _ X9.out⟩
end Go.Proofs.YtnkmckdefiblhaaGreatDoor
