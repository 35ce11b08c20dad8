/- source.Do, whether or not there is room (the walk). -/
import Derived.Test.YtnkmckdefiblhaaGreatDoorProg
import Derived.Test.YtnkmckdefiblhaaGreatDoorG26
namespace Go.Proofs.YtnkmckdefiblhaaGreatDoor
open Go.RowKit Go.Shelf
set_option maxRecDepth 100000 in
set_option maxHeartbeats 8000000 in
theorem sdoF_any (e : Ev) (w : World) (V F : Blk) (sb vb n : Nat) (sec : ByteArray) (S : SrcM) (h : srcIn w V F sb vb n sec S) (hG : Glob w F)
    (hz : e.subject.size ≤ 1048576 ∧ e.table.size ≤ 1048576 ∧ e.row.size ≤ 1048576) (hvz : e.value.size ≤ 1048576) (hsec : sec.size ≤ 1048576) (hn : n ≤ 1000000) (hm : S.many e.subject < 1000000) (hL : S.L.length ≤ 100) :
    Calls Tryz.prog 91 #[.pointer (some ⟨sb, 0, none⟩), .agg (evV e)] w (DoPostF e w V F sb vb n sec S) := by
  obtain ⟨fb, R, tm, h⟩ := h
  have HP : Hid (∀ r w', (r = .returned (.tuple #[.agg (recV (if doF S e = 0 then toldR sec S.many S.has S.L e else zeroR)), if doF S e = 0 then .nilIface else errV (doF S e)]) ∧ ∃ F', srcIn w' V F' sb vb (n + 3) sec (doSF sec S e) ∧ step w w' F F') → DoPostF e w V F sb vb n sec S r w') := Lib.hid fun _ _ h => h
  have GT := fun W hx => get_any e.table e.row W sb 2 (HS vb fb) rfl tm n S.T (h.tab.ext hx) (by unfold maxLen; omega) (by unfold maxLen; omega)
  have TL := fun W hv hf hG => ftellF_any e W V R fb vb n sec S.many S.has S.L hv hf h.apartV hG hz hvz hsec hn hm hL
  have AP := fun W T' n' hn' h => apply_any e W sb 2 (HS vb fb) rfl tm n' T' h hn' hz
  simp only [answG_is] at GT
  have HDX : Hid (doF S e = if e.kind = 1 ∧ (findT (ek e) S.T).isSome = true ∧ txt ((findT (ek e) S.T).getD zeroC).subject ≠ txt e.subject then 13
    else if e.kind = 2 ∧ ¬ ((findT (ek e) S.T).isSome = true ∧ txt ((findT (ek e) S.T).getD zeroC).subject = txt e.subject) then 7 else tellF S.has S.L e) := Lib.hid rfl
  unfold ek at HDX
  have HS0 := Lib.hid h
  have GG := Lib.hid hG
  obtain ⟨s0, s1, ls⟩ := h.cells
  clear h hG
  generalize DoPostF e w V F sb vb n sec S = P at HP ⊢
  generalize (findT (txt e.table, txt e.row) S.T).isSome = f at GT HDX
  generalize (findT (txt e.table, txt e.row) S.T).getD zeroC = c at GT HDX
  obtain ⟨ca, cb, cs, cv⟩ := c
  generalize hev : (if f = true then Value.nilIface else errV 7) = ev0 at GT
  have HEV := Lib.hid hev
  clear hev
  generalize hxX : doF S e = X at HP HDX
  have HX := Lib.hid hxX
  clear hxX
  have H2 := two_new w (.cells (evV e) 155) (.cells (recV zeroR) 108)
  have X2 := Lib.hid (ext_alloc (.cells (recV zeroR) 108) (ext_alloc (.cells (evV e) 155) (ext_refl w)))
  have HE := Lib.hid H2.1
  have HZ := Lib.hid H2.2.1
  have SZ := Lib.hid H2.2.2
  clear H2
  have TL := Lib.hid TL
  have AP := Lib.hid AP
  unfold evV at HE HZ X2 SZ ⊢
  unfold recV zeroR at HZ HE X2 SZ
  unfold cellA at GT
  dsimp only at HE HZ X2 SZ GT HDX
  obtain ⟨k, u, t, r, v⟩ := e
  dsimp only at GT hz hvz hm HE HZ X2 SZ HDX ⊢
  go_enter Tryz.func91, Tryz.ntmps91
  go_wp2_with fail
  generalize (w.alloc (.cells #[.int .i64 k, .string u, .string t, .string r, .string v] 155)).alloc (.cells #[.int .i64 0, .string ⟨#[]⟩, .int .i64 0, .string ⟨#[]⟩, .string ⟨#[]⟩] 108) = W1 at HE HZ SZ X2 ⊢
  generalize hebE : w.heap.size = eb at *
  generalize hzbE : eb + 1 = zb at *
  have le1 := lt_of_heap HE.out
  clear s0 s1
  refine wp_region_slots (frD1 sb eb zb k u t r v) dstD1 (fun _ => undef) (laysD1 sb eb t r ca cb cs cv ev0) (fun L g w => newA 152 W1 #[.string ⟨#[]⟩, .string ⟨#[]⟩, .string ⟨#[]⟩, .string ⟨#[]⟩] #[.string ca, .string cb, .string cs, .string cv] (L 11) (L 12) (g 6) w) (fun w w' => True) (by kernel_rfl) (by kernel_rfl) rfl ?_ (by kernel_rfl) (newA.start _ _ _ _ _) ?_ ?_
  · exact fun _ _ _ _ _ h => h
  · refine ⟨?_, ?_, ?_, ?_, ?_, ?_, ?_, ?_, ?_, ?_, ?_, ?_, ?_, ?_, trivial⟩
    all_goals (intro L gs w1 hLi hdeps hR hC; refine ends_of fun Q hQ => ?_)
    · have HQ := fun (a' : Act) (va : Value) (w' : World) (h1 : a' = frD1 sb eb zb k u t r v (upd1 gs 12 va)) h2 (h3 : laysD1 sb eb t r ca cb cs cv ev0 0 va w') h4 => hQ.out a' w' ⟨va, h1, h2, h3, h4⟩
      unfold frD1
      go_wp2_with fail
      exact HQ _ (.pointer (some ⟨sb, 0, none⟩)) _ (by simp only [frD1, upd1, Nat.reduceEqDiff, reduceIte]) trivial rfl hC
    · have HQ := fun (a' : Act) (va : Value) (w' : World) (h1 : a' = frD1 sb eb zb k u t r v (upd1 gs 13 va)) h2 (h3 : laysD1 sb eb t r ca cb cs cv ev0 1 va w') h4 => hQ.out a' w' ⟨va, h1, h2, h3, h4⟩
      have r0 : gs 12 = .pointer (some ⟨sb, 0, none⟩) := hR 0 (hdeps ⟨0, .data⟩ (by simp) rfl)
      unfold frD1
      go_wp2_with fail
      exact HQ _ (.pointer (some ⟨sb, 0, none⟩)) _ (by simp only [frD1, upd1, r0, Nat.reduceEqDiff, reduceIte]) trivial rfl hC
    · have HQ := fun (a' : Act) (va : Value) (w' : World) (h1 : a' = frD1 sb eb zb k u t r v (upd1 gs 14 va)) h2 (h3 : laysD1 sb eb t r ca cb cs cv ev0 2 va w') h4 => hQ.out a' w' ⟨va, h1, h2, h3, h4⟩
      have r1 : gs 13 = .pointer (some ⟨sb, 0, none⟩) := hR 1 (hdeps ⟨1, .data⟩ (by simp) rfl)
      unfold frD1
      go_wp2_with fail
      exact HQ _ (.pointer (some ⟨sb, 2, none⟩)) _ (by simp only [frD1, upd1, r1, Nat.reduceEqDiff, reduceIte]) trivial rfl hC
    · have HQ := fun (a' : Act) (va : Value) (w' : World) (h1 : a' = frD1 sb eb zb k u t r v (upd1 gs 15 va)) h2 (h3 : laysD1 sb eb t r ca cb cs cv ev0 3 va w') h4 => hQ.out a' w' ⟨va, h1, h2, h3, h4⟩
      unfold frD1
      go_wp2_with fail
      exact HQ _ (.pointer (some ⟨eb, 2, none⟩)) _ (by simp only [frD1, upd1, Nat.reduceEqDiff, reduceIte]) trivial rfl hC
    · have HQ := fun (a' : Act) (va : Value) (w' : World) (h1 : a' = frD1 sb eb zb k u t r v (upd1 gs 16 va)) h2 (h3 : laysD1 sb eb t r ca cb cs cv ev0 4 va w') h4 => hQ.out a' w' ⟨va, h1, h2, h3, h4⟩
      have r3 : gs 15 = .pointer (some ⟨eb, 2, none⟩) := hR 3 (hdeps ⟨3, .data⟩ (by simp) rfl)
      have b0 := (hC.1.block _ le1).trans HE.out
      obtain ⟨c0, c1, c2, c3, c4⟩ := ev5 (e := ⟨k, u, t, r, v⟩) b0
      dsimp only at c0 c1 c2 c3 c4
      have lw1 : eb < w1.heap.size := lt_of_heap b0
      unfold frD1
      go_wp2_with fail
      exact HQ _ (.string t) _ (by simp only [frD1, upd1, r3, Nat.reduceEqDiff, reduceIte]) trivial rfl hC
    · have HQ := fun (a' : Act) (va : Value) (w' : World) (h1 : a' = frD1 sb eb zb k u t r v (upd1 gs 17 va)) h2 (h3 : laysD1 sb eb t r ca cb cs cv ev0 5 va w') h4 => hQ.out a' w' ⟨va, h1, h2, h3, h4⟩
      unfold frD1
      go_wp2_with fail
      exact HQ _ (.pointer (some ⟨eb, 3, none⟩)) _ (by simp only [frD1, upd1, Nat.reduceEqDiff, reduceIte]) trivial rfl hC
    · have HQ := fun (a' : Act) (va : Value) (w' : World) (h1 : a' = frD1 sb eb zb k u t r v (upd1 gs 18 va)) h2 (h3 : laysD1 sb eb t r ca cb cs cv ev0 6 va w') h4 => hQ.out a' w' ⟨va, h1, h2, h3, h4⟩
      have r5 : gs 17 = .pointer (some ⟨eb, 3, none⟩) := hR 5 (hdeps ⟨5, .data⟩ (by simp) rfl)
      have b0 := (hC.1.block _ le1).trans HE.out
      obtain ⟨c0, c1, c2, c3, c4⟩ := ev5 (e := ⟨k, u, t, r, v⟩) b0
      dsimp only at c0 c1 c2 c3 c4
      have lw1 : eb < w1.heap.size := lt_of_heap b0
      unfold frD1
      go_wp2_with fail
      exact HQ _ (.string r) _ (by simp only [frD1, upd1, r5, Nat.reduceEqDiff, reduceIte]) trivial rfl hC
    · have HQ := fun (a' : Act) (va : Value) (w' : World) (h1 : a' = frD1 sb eb zb k u t r v (upd1 gs 19 va)) h2 (h3 : laysD1 sb eb t r ca cb cs cv ev0 7 va w') h4 => hQ.out a' w' ⟨va, h1, h2, h3, h4⟩
      have r2 : gs 14 = .pointer (some ⟨sb, 2, none⟩) := hR 2 (hdeps ⟨2, .data⟩ (by simp) rfl)
      have r4 : gs 16 = .string t := hR 4 (hdeps ⟨4, .data⟩ (by simp) rfl)
      have r6 : gs 18 = .string r := hR 6 (hdeps ⟨6, .data⟩ (by simp) rfl)
      unfold frD1
      go_wp2_with fail
      refine (GT w1 (ext_trans X2.out (ext_of hC.1))).mono ?_
      rintro _ w4 ⟨rfl, hx⟩
      go_wp2_with fail
      exact HQ _ (.tuple #[.agg #[.string ca, .string cb, .string cs, .string cv], ev0]) _ (by simp only [frD1, upd1, r2, r4, r6, Nat.reduceEqDiff, reduceIte]) trivial rfl (newA.ext hC hx)
    · have HQ := fun (a' : Act) (va : Value) (w' : World) (h1 : a' = frD1 sb eb zb k u t r v (upd1 gs 11 va)) h2 (h3 : laysD1 sb eb t r ca cb cs cv ev0 8 va w') h4 => hQ.out a' w' ⟨va, h1, h2, h3, h4⟩
      have r7 : gs 19 = .tuple #[.agg #[.string ca, .string cb, .string cs, .string cv], ev0] := hR 7 (hdeps ⟨7, .data⟩ (by simp) rfl)
      unfold frD1
      go_wp2_with fail
      exact HQ _ (.tuple #[.agg #[.string ca, .string cb, .string cs, .string cv], ev0]) _ (by simp only [frD1, upd1, r7, Nat.reduceEqDiff, reduceIte]) trivial rfl hC
    · have HQ := fun (a' : Act) (va : Value) (w' : World) (h1 : a' = frD1 sb eb zb k u t r v (upd1 gs 20 va)) h2 (h3 : laysD1 sb eb t r ca cb cs cv ev0 9 va w') h4 => hQ.out a' w' ⟨va, h1, h2, h3, h4⟩
      have r8 : gs 11 = .tuple #[.agg #[.string ca, .string cb, .string cs, .string cv], ev0] := hR 8 (hdeps ⟨8, .data⟩ (by simp) rfl)
      unfold frD1
      go_wp2_with fail
      exact HQ _ (.agg #[.string ca, .string cb, .string cs, .string cv]) _ (by simp only [frD1, upd1, r8, Nat.reduceEqDiff, reduceIte]) trivial rfl hC
    · have HQ := fun (a' : Act) (va : Value) (w' : World) (h1 : a' = frD1 sb eb zb k u t r v (upd1 gs 21 va)) h2 (h3 : laysD1 sb eb t r ca cb cs cv ev0 10 va w') h4 => hQ.out a' w' ⟨va, h1, h2, h3, h4⟩
      have r8 : gs 11 = .tuple #[.agg #[.string ca, .string cb, .string cs, .string cv], ev0] := hR 8 (hdeps ⟨8, .data⟩ (by simp) rfl)
      unfold frD1
      go_wp2_with fail
      exact HQ _ (ev0) _ (by simp only [frD1, upd1, r8, Nat.reduceEqDiff, reduceIte]) trivial rfl hC
    · have HQ := fun (a' : Act) (va : Value) (w' : World) (h1 : a' = frD1 sb eb zb k u t r v (upd1 gs 6 va)) h2 (h3 : laysD1 sb eb t r ca cb cs cv ev0 11 va w') h4 => hQ.out a' w' ⟨va, h1, h2, h3, h4⟩
      unfold frD1
      go_wp2_with fail
      exact HQ _ (.pointer (some ⟨w1.heap.size, 0, none⟩)) _ (by simp only [frD1, upd1, Nat.reduceEqDiff, reduceIte]) trivial ⟨_, rfl⟩ (newA.made hC hLi)
    · have HQ := fun (a' : Act) (va : Value) (w' : World) (h1 : a' = frD1 sb eb zb k u t r v (upd1 gs 1012 va)) h2 (h3 : laysD1 sb eb t r ca cb cs cv ev0 12 va w') h4 => hQ.out a' w' ⟨va, h1, h2, h3, h4⟩
      have r9 : gs 20 = .agg #[.string ca, .string cb, .string cs, .string cv] := hR 9 (hdeps ⟨9, .data⟩ (by simp) rfl)
      have r11 := hR 11 (hdeps ⟨11, .data⟩ (by simp) rfl)
      obtain ⟨p, hp⟩ := r11
      change gs 6 = _ at hp
      have l11 : L 11 = true := hdeps ⟨11, .data⟩ (by simp) rfl
      obtain ⟨p', hp', hpl, hpb⟩ := hC.2.2 l11
      rw [hp] at hp'
      injection hp' with hp'
      injection hp' with hp'
      injection hp' with hp'
      subst hp'
      rw [show L 12 = false from hLi] at hpb
      have hpb : w1.heap[p]? = some (.cells #[.string ⟨#[]⟩, .string ⟨#[]⟩, .string ⟨#[]⟩, .string ⟨#[]⟩] 152 (0, 0)) := hpb
      have lw1 := lt_of_heap hpb
      have ff := free_of_heap hpb
      have HH := Lib.hid (setC4 hpb (.string ca) (.string cb) (.string cs) (.string cv))
      obtain ⟨z0, z1, z2, z3⟩ := cell_cells (c := zeroC) hpb
      unfold zeroC at z0 z1 z2 z3
      dsimp only at z0 z1 z2 z3
      clear hpb
      unfold frD1
      go_wp2_with fail
      exact HQ _ undef _ (by simp only [frD1, upd1, r9, hp, Nat.reduceEqDiff, reduceIte]) trivial trivial (newA.put hC l11 hp HH.out.1 HH.out.2)
    · have HQ := fun (a' : Act) (va : Value) (w' : World) (h1 : a' = frD1 sb eb zb k u t r v (upd1 gs 7 va)) h2 (h3 : laysD1 sb eb t r ca cb cs cv ev0 13 va w') h4 => hQ.out a' w' ⟨va, h1, h2, h3, h4⟩
      have r10 : gs 21 = ev0 := hR 10 (hdeps ⟨10, .data⟩ (by simp) rfl)
      unfold frD1
      go_wp2_with fail
      exact HQ _ (ev0) _ (by simp only [frD1, upd1, r10, Nat.reduceEqDiff, reduceIte]) trivial rfl hC
  intro L1 g1 w2 hall hR hC

  obtain ⟨p6, hp6, hpl, hpb⟩ := hC.2.2 (hall 11 (by decide))
  rw [hall 12 (by decide), if_pos rfl] at hpb
  have CB := Lib.hid hpb
  have s7 : g1 7 = ev0 := hR 13 (by decide)
  have B2 := Lib.hid hC.1
  have X3 := Lib.hid (ext_trans X2.out (ext_of hC.1))
  have E3 := Lib.hid ((hC.1.block _ le1).trans HE.out)
  have Z3 := Lib.hid ((hC.1.block _ (lt_of_heap HZ.out)).trans HZ.out)
  have P6 := Lib.hid (show eb + 2 ≤ p6 by have := SZ.out; omega)
  clear hC hall hR hpb hpl le1 HE HZ SZ X2 GT
  unfold frD1
  rw [hp6, s7]
  clear hp6 s7
  obtain ⟨c0, c1, c2, c3, c4⟩ := ev5 (e := ⟨k, u, t, r, v⟩) E3.out
  dsimp only at c0 c1 c2 c3 c4
  have le := lt_of_heap E3.out
  obtain ⟨d0, d1, d2, d3⟩ := cell_cells (c := ⟨ca, cb, cs, cv⟩) CB.out
  dsimp only at d0 d1 d2 d3
  have lp := lt_of_heap CB.out
  obtain ⟨y0, y1, y2, y3, y4⟩ := rec_cells (r := ⟨0, ⟨#[]⟩, 0, ⟨#[]⟩, ⟨#[]⟩⟩) Z3.out
  dsimp only at y0 y1 y2 y3 y4
  have lz := lt_of_heap Z3.out
  have fz := free_of_heap Z3.out
  have SR := Lib.hid (setRec5 Z3.out (.int .i64 0) (.string ⟨#[]⟩) (.int .i64 0) (.string ⟨#[]⟩) (.string ⟨#[]⟩))
  have hcs : cs.toList = txt cs := ByteArray.toList_eq _
  have hus : u.toList = txt u := ByteArray.toList_eq _
  have TXT := Lib.hid (show ((cs.toList == u.toList) = true → txt cs = txt u) ∧ ((cs.toList == u.toList) = false → txt cs ≠ txt u) from ⟨fun h => by have := eq_of_beq h; rw [hcs, hus] at this; exact this, fun h e => by rw [hcs, hus, e] at h; simp at h⟩)
  clear hcs hus
  have HS4 := Lib.hid (HS0.out.same (w' := w2) (fun i hi => (ext_iff.1 X3.out).block i (HS0.out.lt i hi)) (ext_iff.1 X3.out).size)
  have FL := Lib.hid (show ∀ i, F i → i < eb from fun i hi => by have := HS0.out.lt i hi; omega)
  have G4 := Lib.hid (GG.out.ext X3.out)
  have TL2 := fun W hv hf hG => (TL.out W hv hf hG).mono fun r w' h => told_allF h
  generalize hrr : (if tellF S.has S.L ⟨k, u, t, r, v⟩ = 0 then toldR sec S.many S.has S.L ⟨k, u, t, r, v⟩ else zeroR) = rr at TL2
  have HRR := Lib.hid hrr
  clear hrr
  generalize hxv : (if tellF S.has S.L ⟨k, u, t, r, v⟩ = 0 then Value.nilIface else errV (tellF S.has S.L ⟨k, u, t, r, v⟩)) = xv at TL2
  have HXV := Lib.hid hxv
  clear hxv
  generalize hmm2 : (if tellF S.has S.L ⟨k, u, t, r, v⟩ = 0 then toldMany S.many S.has ⟨k, u, t, r, v⟩ else S.many) = many2 at TL2
  have HM2 := Lib.hid hmm2
  clear hmm2
  generalize hhh2 : (if tellF S.has S.L ⟨k, u, t, r, v⟩ = 0 then toldHas S.has ⟨k, u, t, r, v⟩ else S.has) = has2 at TL2
  have HH2 := Lib.hid hhh2
  clear hhh2
  generalize hll2 : (if tellF S.has S.L ⟨k, u, t, r, v⟩ = 0 then S.L ++ [toldR sec S.many S.has S.L ⟨k, u, t, r, v⟩] else S.L) = L2 at TL2
  have HL2 := Lib.hid hll2
  clear hll2
  obtain ⟨q0, u0, g0, p0, b0⟩ := rr
  unfold recV evV at TL2
  dsimp only at TL2
  have TL2 := Lib.hid TL2
  have ZF : Hid (¬ F zb) := Lib.hid fun h => by have := FL.out _ h; omega
  have EF : Hid (¬ F eb) := Lib.hid fun h => by have := FL.out _ h; omega
  have KS2 := Lib.hid (step.of_ext F X3.out)
  clear TL HS0 GG
  by_cases k1 : k = 1
  · subst k1
    cases f with
    | false =>
      obtain rfl : errV 7 = ev0 := HEV.out
      go_wp2_with fail
      have HXT : Hid (X = tellF S.has S.L ⟨1, u, t, r, v⟩) := Lib.hid (HDX.out.trans ((if_neg (fun h => by cases h.2.1)).trans (if_neg (fun h => absurd h.1 (by decide)))))
      clear c0 c1 c2 c3 c4 d0 d1 d2 d3 y0 y1 y2 y3 y4 le lp lz fz SR HDX
      generalize hW2 : w2 = W2 at *
      refine wp_region_slots (frD7P1 sb eb zb p6 u t r v g1) dstD7P1 (fun k => if k = 7 then errV 7 else undef) (laysD7P1 sb u t r v fb q0 u0 g0 p0 b0 xv) (fun L g w => tellC V R fb vb n sec S.many many2 S.has has2 S.L L2 #[.int .i64 0, .string ⟨#[]⟩, .int .i64 0, .string ⟨#[]⟩, .string ⟨#[]⟩] #[.int .i64 q0, .string u0, .int .i64 g0, .string p0, .string b0] W2 (L 5) (L 9) (L 10) (g 9) w) (fun w w' => True) (by kernel_rfl) (by kernel_rfl) rfl ?_ (by kernel_rfl) (tellC.start HS4.out.vault HS4.out.feed) ?_ ?_
      · exact fun _ _ _ _ _ h => h
      · refine ⟨?_, ?_, ?_, ?_, ?_, ?_, ?_, ?_, ?_, ?_, ?_, ?_, trivial⟩
        all_goals (intro L gs w1 hLi hdeps hR hC; refine ends_of fun Q hQ => ?_)
        · have HQ := fun (a' : Act) (va : Value) (w' : World) (h1 : a' = frD7P1 sb eb zb p6 u t r v g1 (upd1 gs 58 va)) h2 (h3 : laysD7P1 sb u t r v fb q0 u0 g0 p0 b0 xv 0 va w') h4 => hQ.out a' w' ⟨va, h1, h2, h3, h4⟩
          unfold frD7P1
          go_wp2_with fail
          exact HQ _ (.pointer (some ⟨sb, 0, none⟩)) _ (by simp only [frD7P1, upd1, Nat.reduceEqDiff, reduceIte]) trivial rfl hC
        · have HQ := fun (a' : Act) (va : Value) (w' : World) (h1 : a' = frD7P1 sb eb zb p6 u t r v g1 (upd1 gs 59 va)) h2 (h3 : laysD7P1 sb u t r v fb q0 u0 g0 p0 b0 xv 1 va w') h4 => hQ.out a' w' ⟨va, h1, h2, h3, h4⟩
          have r0 : gs 58 = .pointer (some ⟨sb, 0, none⟩) := hR 0 (hdeps ⟨0, .data⟩ (by simp) rfl)
          unfold frD7P1
          go_wp2_with fail
          exact HQ _ (.pointer (some ⟨sb, 0, none⟩)) _ (by simp only [frD7P1, upd1, r0, Nat.reduceEqDiff, reduceIte]) trivial rfl hC
        · have HQ := fun (a' : Act) (va : Value) (w' : World) (h1 : a' = frD7P1 sb eb zb p6 u t r v g1 (upd1 gs 60 va)) h2 (h3 : laysD7P1 sb u t r v fb q0 u0 g0 p0 b0 xv 2 va w') h4 => hQ.out a' w' ⟨va, h1, h2, h3, h4⟩
          have r1 : gs 59 = .pointer (some ⟨sb, 0, none⟩) := hR 1 (hdeps ⟨1, .data⟩ (by simp) rfl)
          unfold frD7P1
          go_wp2_with fail
          exact HQ _ (.pointer (some ⟨sb, 1, none⟩)) _ (by simp only [frD7P1, upd1, r1, Nat.reduceEqDiff, reduceIte]) trivial rfl hC
        · have HQ := fun (a' : Act) (va : Value) (w' : World) (h1 : a' = frD7P1 sb eb zb p6 u t r v g1 (upd1 gs 61 va)) h2 (h3 : laysD7P1 sb u t r v fb q0 u0 g0 p0 b0 xv 3 va w') h4 => hQ.out a' w' ⟨va, h1, h2, h3, h4⟩
          have r2 : gs 60 = .pointer (some ⟨sb, 1, none⟩) := hR 2 (hdeps ⟨2, .data⟩ (by simp) rfl)
          have hb0 := (hC.keep HS4.out.cells.2.2 (by rintro (h | h); exact HS4.out.sb_.2.1 h; exact HS4.out.sb_.2.2 h)).trans HS4.out.tab.blk
          have c1 : w1.cell? ⟨sb, 1, none⟩ = some (.pointer (some ⟨fb, 0, none⟩)) := by rw [cell_in, hb0]; rfl
          have lw1 : sb < w1.heap.size := lt_of_heap hb0
          unfold frD7P1
          go_wp2_with fail
          exact HQ _ (.pointer (some ⟨fb, 0, none⟩)) _ (by simp only [frD7P1, upd1, r2, Nat.reduceEqDiff, reduceIte]) trivial rfl hC
        · have HQ := fun (a' : Act) (va : Value) (w' : World) (h1 : a' = frD7P1 sb eb zb p6 u t r v g1 (upd1 gs 62 va)) h2 (h3 : laysD7P1 sb u t r v fb q0 u0 g0 p0 b0 xv 4 va w') h4 => hQ.out a' w' ⟨va, h1, h2, h3, h4⟩
          have hb0 := (hC.keep (lt_of_heap E3.out) (by rintro (h | h); exact EF.out (HS4.out.subV _ h); exact EF.out (HS4.out.subR _ h))).trans E3.out
          obtain ⟨c0, c1, c2, c3, c4⟩ := ev5 (e := ⟨1, u, t, r, v⟩) hb0
          dsimp only at c0 c1 c2 c3 c4
          have lw1 : eb < w1.heap.size := lt_of_heap hb0
          unfold frD7P1
          go_wp2_with fail
          exact HQ _ (.agg #[.int .i64 1, .string u, .string t, .string r, .string v]) _ (by simp only [frD7P1, upd1, Nat.reduceEqDiff, reduceIte]) trivial rfl hC
        · have HQ := fun (a' : Act) (va : Value) (w' : World) (h1 : a' = frD7P1 sb eb zb p6 u t r v g1 (upd1 gs 63 va)) h2 (h3 : laysD7P1 sb u t r v fb q0 u0 g0 p0 b0 xv 5 va w') h4 => hQ.out a' w' ⟨va, h1, h2, h3, h4⟩
          have r3 : gs 61 = .pointer (some ⟨fb, 0, none⟩) := hR 3 (hdeps ⟨3, .data⟩ (by simp) rfl)
          have r4 : gs 62 = .agg #[.int .i64 1, .string u, .string t, .string r, .string v] := hR 4 (hdeps ⟨4, .data⟩ (by simp) rfl)
          have hbf := hC.before hLi
          obtain ⟨F2, hs2, hs3⟩ := hC.stepF HS4.out
          have hgl := ((G4.out.step hs2).sub (G := fun i => V i ∨ R i) (fun i h => hs3 i (HS4.out.subVR i h)))
          have HG := Lib.hid hgl
          have HBF := Lib.hid hbf
          clear hbf hgl hs2 hs3
          unfold frD7P1
          go_wp2_with fail
          refine (TL2.out w1 HBF.out.1 HBF.out.2 HG.out).mono ?_
          rintro _ w5 ⟨rfl, hts⟩
          go_wp2_with fail
          exact HQ _ (.tuple #[.agg #[.int .i64 q0, .string u0, .int .i64 g0, .string p0, .string b0], xv]) _ (by simp only [frD7P1, upd1, r3, r4, Nat.reduceEqDiff, reduceIte]) trivial rfl (hC.call hLi hts)
        · have HQ := fun (a' : Act) (va : Value) (w' : World) (h1 : a' = frD7P1 sb eb zb p6 u t r v g1 (upd1 gs 57 va)) h2 (h3 : laysD7P1 sb u t r v fb q0 u0 g0 p0 b0 xv 6 va w') h4 => hQ.out a' w' ⟨va, h1, h2, h3, h4⟩
          have r5 : gs 63 = .tuple #[.agg #[.int .i64 q0, .string u0, .int .i64 g0, .string p0, .string b0], xv] := hR 5 (hdeps ⟨5, .data⟩ (by simp) rfl)
          unfold frD7P1
          go_wp2_with fail
          exact HQ _ (.tuple #[.agg #[.int .i64 q0, .string u0, .int .i64 g0, .string p0, .string b0], xv]) _ (by simp only [frD7P1, upd1, r5, Nat.reduceEqDiff, reduceIte]) trivial rfl hC
        · have HQ := fun (a' : Act) (va : Value) (w' : World) (h1 : a' = frD7P1 sb eb zb p6 u t r v g1 (upd1 gs 64 va)) h2 (h3 : laysD7P1 sb u t r v fb q0 u0 g0 p0 b0 xv 7 va w') h4 => hQ.out a' w' ⟨va, h1, h2, h3, h4⟩
          have r6 : gs 57 = .tuple #[.agg #[.int .i64 q0, .string u0, .int .i64 g0, .string p0, .string b0], xv] := hR 6 (hdeps ⟨6, .data⟩ (by simp) rfl)
          unfold frD7P1
          go_wp2_with fail
          exact HQ _ (.agg #[.int .i64 q0, .string u0, .int .i64 g0, .string p0, .string b0]) _ (by simp only [frD7P1, upd1, r6, Nat.reduceEqDiff, reduceIte]) trivial rfl hC
        · have HQ := fun (a' : Act) (va : Value) (w' : World) (h1 : a' = frD7P1 sb eb zb p6 u t r v g1 (upd1 gs 65 va)) h2 (h3 : laysD7P1 sb u t r v fb q0 u0 g0 p0 b0 xv 8 va w') h4 => hQ.out a' w' ⟨va, h1, h2, h3, h4⟩
          have r6 : gs 57 = .tuple #[.agg #[.int .i64 q0, .string u0, .int .i64 g0, .string p0, .string b0], xv] := hR 6 (hdeps ⟨6, .data⟩ (by simp) rfl)
          unfold frD7P1
          go_wp2_with fail
          exact HQ _ (xv) _ (by simp only [frD7P1, upd1, r6, Nat.reduceEqDiff, reduceIte]) trivial rfl hC
        · have HQ := fun (a' : Act) (va : Value) (w' : World) (h1 : a' = frD7P1 sb eb zb p6 u t r v g1 (upd1 gs 9 va)) h2 (h3 : laysD7P1 sb u t r v fb q0 u0 g0 p0 b0 xv 9 va w') h4 => hQ.out a' w' ⟨va, h1, h2, h3, h4⟩
          unfold frD7P1
          go_wp2_with fail
          exact HQ _ (.pointer (some ⟨w1.heap.size, 0, none⟩)) _ (by simp only [frD7P1, upd1, Nat.reduceEqDiff, reduceIte]) trivial ⟨_, rfl⟩ (hC.made hLi)
        · have HQ := fun (a' : Act) (va : Value) (w' : World) (h1 : a' = frD7P1 sb eb zb p6 u t r v g1 (upd1 gs 1010 va)) h2 (h3 : laysD7P1 sb u t r v fb q0 u0 g0 p0 b0 xv 10 va w') h4 => hQ.out a' w' ⟨va, h1, h2, h3, h4⟩
          have r7 : gs 64 = .agg #[.int .i64 q0, .string u0, .int .i64 g0, .string p0, .string b0] := hR 7 (hdeps ⟨7, .data⟩ (by simp) rfl)
          have r9 := hR 9 (hdeps ⟨9, .data⟩ (by simp) rfl)
          have HC := Lib.hid hC
          obtain ⟨p, hp⟩ := r9
          change gs 9 = _ at hp
          have l9 : L 9 = true := hdeps ⟨9, .data⟩ (by simp) rfl
          obtain ⟨_, _, _, _, h4⟩ := hC
          obtain ⟨p', hp', hpl, hpb, _, _⟩ := h4 l9
          rw [hp] at hp'
          injection hp' with hp'
          injection hp' with hp'
          injection hp' with hp'
          subst hp'
          rw [show L 10 = false from hLi] at hpb
          have hpb : w1.heap[p]? = some (.cells #[.int .i64 0, .string ⟨#[]⟩, .int .i64 0, .string ⟨#[]⟩, .string ⟨#[]⟩] 108 (0, 0)) := hpb
          have lw1 := lt_of_heap hpb
          have ff := free_of_heap hpb
          have HH := Lib.hid (setRec5 hpb (.int .i64 q0) (.string u0) (.int .i64 g0) (.string p0) (.string b0))
          obtain ⟨z0, z1, z2, z3, z4⟩ := rec_cells (r := ⟨0, ⟨#[]⟩, 0, ⟨#[]⟩, ⟨#[]⟩⟩) hpb
          dsimp only at z0 z1 z2 z3 z4
          clear hpb h4
          unfold frD7P1
          go_wp2_with fail
          exact HQ _ undef _ (by simp only [frD7P1, upd1, r7, hp, Nat.reduceEqDiff, reduceIte]) trivial trivial (HC.out.put l9 hp HH.out.1 HH.out.2)
        · have HQ := fun (a' : Act) (va : Value) (w' : World) (h1 : a' = frD7P1 sb eb zb p6 u t r v g1 (upd1 gs 7 va)) h2 (h3 : laysD7P1 sb u t r v fb q0 u0 g0 p0 b0 xv 11 va w') h4 => hQ.out a' w' ⟨va, h1, h2, h3, h4⟩
          have r8 : gs 65 = xv := hR 8 (hdeps ⟨8, .data⟩ (by simp) rfl)
          unfold frD7P1
          go_wp2_with fail
          exact HQ _ (xv) _ (by simp only [frD7P1, upd1, r8, Nat.reduceEqDiff, reduceIte]) trivial rfl hC
      intro L7 g7 w8 hall hR hC
      obtain ⟨R', h1, ⟨h2, h2'⟩, h3, h4⟩ := hC
      rw [hall 5 (by decide), if_pos rfl] at h1
      obtain ⟨p9, hp9, hpl, hpb, hnV, hnR⟩ := h4 (hall 9 (by decide))
      rw [hall 10 (by decide), if_pos rfl] at hpb
      have s7 : g7 7 = xv := hR 11 (by decide)
      have V8 := Lib.hid h1.1
      have F8 := Lib.hid h1.2
      have ST8 := Lib.hid h2
      have NR8 := Lib.hid h2'
      have HP9 := Lib.hid hpb
      have ZL := Lib.hid (lt_of_heap Z3.out)
      have PL9 := Lib.hid hpl
      have hzk := h2.keep (lt_of_heap Z3.out) (by rintro (h | h); exact ZF.out (HS4.out.subV _ h); exact ZF.out (HS4.out.subR _ h))
      have hek := h2.keep (lt_of_heap E3.out) (by rintro (h | h); exact EF.out (HS4.out.subV _ h); exact EF.out (HS4.out.subR _ h))
      have Z8 := Lib.hid (hzk.1.trans Z3.out)
      have E8 := Lib.hid (hek.1.trans E3.out)
      have hbs := h2.keep HS4.out.cells.2.2 (by rintro (h | h); exact HS4.out.sb_.2.1 h; exact HS4.out.sb_.2.2 h)
      have T8 := Lib.hid ((HS4.out.tab.same hbs.1 (fun b hb => (h2.keep (HS4.out.lt _ (HS4.out.tm_ b hb).1) (by rintro (h | h); exact (HS4.out.tm_ b hb).2.1 h; exact (HS4.out.tm_ b hb).2.2 h)).1)).mono (by omega : n ≤ n + 2))
      clear h1 h2 h2' h3 h4 hpl hpb hnV hnR hall hR hzk hek hbs E3 Z3
      unfold frD7P1
      rw [hp9, s7]
      clear hp9 s7
      obtain ⟨y0, y1, y2, y3, y4⟩ := rec_cells (r := ⟨0, ⟨#[]⟩, 0, ⟨#[]⟩, ⟨#[]⟩⟩) Z8.out
      dsimp only at y0 y1 y2 y3 y4
      have lz := lt_of_heap Z8.out
      have fz := free_of_heap Z8.out
      by_cases hx0 : tellF S.has S.L ⟨1, u, t, r, v⟩ = 0
      · obtain rfl : Value.nilIface = xv := by rw [← HXV.out, if_pos hx0]
        have hright := (tellF_right hx0).1
        have AP8 := fun W h => AP.out W S.T (n + 2) (by omega) h
        rw [hright, if_pos rfl, show applyT okV ⟨1, u, t, r, v⟩ S.T = stepT ⟨1, u, t, r, v⟩ S.T by unfold applyT; rw [if_pos hright]] at AP8
        have HX0 := Lib.hid hx0
        clear hx0 hright AP TL2
        unfold evV at AP8
        dsimp only at AP8
        have AP8 := Lib.hid AP8
        obtain ⟨c0, c1, c2, c3, c4⟩ := ev5 (e := ⟨1, u, t, r, v⟩) E8.out
        dsimp only at c0 c1 c2 c3 c4
        have le := lt_of_heap E8.out
        go_wp2_with fail
        refine wp_region_tail 4 (by kernel_rfl) (by kernel_rfl) ?_
        simp only [List.take_succ_cons, List.take_zero, List.drop_succ_cons, List.drop_zero]
        repeat (go_big_quiet_step (fail))
        refine wpQuiet_nil ?_
        rintro _ ⟨x, rfl⟩
        have HX8 := Lib.hid (ext_trans (ext_refl w8) ⟨x, rfl⟩)
        generalize ext w8 x = wx at HX8 ⊢
        clear c0 c1 c2 c3 c4 le y0 y1 y2 y3 y4 lz fz
        have AP8 := AP8.out wx (T8.out.ext HX8.out)
        go_wp2_with fail
        refine AP8.mono ?_
        rintro _ w10 ⟨rfl, mb', t1, t2, t3, kk⟩
        have hkx := ((kept2.refl w8 sb tm).ext HX8.out).trans kk (fun b hb => .inl hb)
        have htl : ∀ b, tm = some b → b < W2.heap.size := fun b hb => HS4.out.lt _ (HS4.out.tm_ b hb).1
        have hsl := HS4.out.cells.2.2
        have HP10 := Lib.hid ((hkx.block p9 (lt_of_heap HP9.out) (fun e => by have := PL9.out; omega) (fun e => by have := htl p9 e.symm; have := PL9.out; omega)).trans HP9.out)
        have Z10 := Lib.hid ((hkx.block zb (lt_of_heap Z8.out) (fun e => ZF.out (e ▸ HS4.out.sb_.1)) (fun e => ZF.out (HS4.out.tm_ zb e.symm).1)).trans Z8.out)
        have TLD := Lib.hid (HS4.out.told ST8.out NR8.out V8.out F8.out t1 t2 (fun e b hb => Nat.le_trans (ext_iff.1 HX8.out).size (t3 e b hb)) hkx)
        clear t1 t2 t3 kk hkx htl hsl AP8 T8 HX8 HP9 Z8 E8
        obtain ⟨z0, z1, z2, z3, z4⟩ := rec_cells (r := ⟨q0, u0, g0, p0, b0⟩) HP10.out
        dsimp only at z0 z1 z2 z3 z4
        have lp := lt_of_heap HP10.out
        obtain ⟨y0, y1, y2, y3, y4⟩ := rec_cells (r := ⟨0, ⟨#[]⟩, 0, ⟨#[]⟩, ⟨#[]⟩⟩) Z10.out
        dsimp only at y0 y1 y2 y3 y4
        have lz := lt_of_heap Z10.out
        have fz := free_of_heap Z10.out
        have SR := Lib.hid (setRec5 Z10.out (.int .i64 q0) (.string u0) (.int .i64 g0) (.string p0) (.string b0))
        go_wp2_with fail
        generalize (((((w10.setCell ⟨zb, 0, none⟩ (.int .i64 q0)).setCell ⟨zb, 1, none⟩ (.string u0)).setCell ⟨zb, 2, none⟩ (.int .i64 g0)).setCell ⟨zb, 3, none⟩ (.string p0)).setCell ⟨zb, 4, none⟩ (.string b0)) = w9 at SR ⊢
        obtain ⟨SR1, SR2⟩ := SR.out
        have hX : X = 0 := HXT.out.trans HX0.out
        obtain ⟨F', hsr, hst⟩ := TLD.out
        rw [← HM2.out, ← HH2.out, ← HL2.out, if_pos HX0.out, if_pos HX0.out, if_pos HX0.out] at hsr
        have hzF : ¬ F' zb := fun h => (hst.sub _ h).elim (fun h => ZF.out h) (fun h => by have := ZL.out; omega)
        have hRR := HRR.out
        rw [if_pos HX0.out] at hRR
        exact ret_cells rfl rfl SR1 Tryz.underlying108 rfl (by kernel_rfl) rfl rfl (HP.out _ _ ⟨by rw [hX, if_pos rfl, if_pos rfl, hRR]; rfl, F', by rw [doSF_yes (by rw [HX.out]; exact hX)]; exact hsr.same (fun i hi => SR2.block i (hsr.lt i hi) (fun e => by injection e with e; subst e; exact hzF hi)) SR2.size, (KS2.out.trans hst).put SR2 (.inr (by omega))⟩)
      · obtain rfl : errV (tellF S.has S.L ⟨1, u, t, r, v⟩) = xv := by rw [← HXV.out, if_neg hx0]
        have hX : X ≠ 0 := by rw [HXT.out]; exact hx0
        have SR := Lib.hid (setRec5 Z8.out (.int .i64 0) (.string ⟨#[]⟩) (.int .i64 0) (.string ⟨#[]⟩) (.string ⟨#[]⟩))
        have HM3 := Lib.hid (HM2.out.symm.trans (if_neg hx0))
        have HH3 := Lib.hid (HH2.out.symm.trans (if_neg hx0))
        have HL3 := Lib.hid (HL2.out.symm.trans (if_neg hx0))
        have HXT := Lib.hid HXT.out
        clear hx0 AP TL2
        generalize tellF S.has S.L ⟨1, u, t, r, v⟩ = x8 at HXT ⊢
        have HNE := Lib.hid hX
        clear hX
        go_wp2_with fail
        generalize (((((w8.setCell ⟨zb, 0, none⟩ (.int .i64 0)).setCell ⟨zb, 1, none⟩ (.string ⟨#[]⟩)).setCell ⟨zb, 2, none⟩ (.int .i64 0)).setCell ⟨zb, 3, none⟩ (.string ⟨#[]⟩)).setCell ⟨zb, 4, none⟩ (.string ⟨#[]⟩)) = w9 at SR ⊢
        obtain ⟨SR1, SR2⟩ := SR.out
        have V9 := V8.out
        have F9 := F8.out
        rw [HM3.out, HH3.out] at V9
        rw [HL3.out] at F9
        obtain ⟨F', hsr, hst⟩ := HS4.out.refused ST8.out NR8.out V9 F9
        have hzF : ¬ F' zb := fun h => (hst.sub _ h).elim (fun h => ZF.out h) (fun h => by have := ZL.out; omega)
        exact ret_cells rfl rfl SR1 Tryz.underlying108 rfl (by kernel_rfl) rfl rfl (HP.out _ _ ⟨by rw [if_neg HNE.out, if_neg HNE.out, HXT.out]; rfl, F', by rw [doSF_no (by rw [HX.out]; exact HNE.out)]; exact hsr.same (fun i hi => SR2.block i (hsr.lt i hi) (fun e => by injection e with e; subst e; exact hzF hi)) SR2.size, (KS2.out.trans hst).put SR2 (.inr (by omega))⟩)
    | true =>
      obtain rfl : Value.nilIface = ev0 := HEV.out
      cases hq : (cs.toList == u.toList) with
      | false =>
        go_wp2_with fail
        generalize (((((w2.setCell ⟨zb, 0, none⟩ (.int .i64 0)).setCell ⟨zb, 1, none⟩ (.string ⟨#[]⟩)).setCell ⟨zb, 2, none⟩ (.int .i64 0)).setCell ⟨zb, 3, none⟩ (.string ⟨#[]⟩)).setCell ⟨zb, 4, none⟩ (.string ⟨#[]⟩)) = w9 at SR ⊢
        obtain ⟨SR1, SR2⟩ := SR.out
        have hX : X = 13 := HDX.out.trans (by rw [if_pos ⟨by trivial, by trivial, TXT.out.2 hq⟩])
        have hne : X ≠ 0 := by rw [hX]; decide
        have SRC : srcIn w9 V F sb vb n sec S := srcIn.same ⟨fb, R, tm, HS4.out⟩ (fun i hi => SR2.block i (HS4.out.lt i hi) (fun e => by injection e with e; subst e; exact ZF.out hi)) SR2.size
        exact ret_cells rfl rfl SR1 Tryz.underlying108 rfl (by kernel_rfl) rfl rfl (HP.out _ _ ⟨by rw [if_neg hne, if_neg hne, hX]; rfl, F, by rw [doSF_no (by rw [HX.out]; exact hne)]; exact SRC.mono (by omega), KS2.out.put SR2 (.inr (by omega))⟩)
      | true =>
        go_wp2_with fail
        have HXT : Hid (X = tellF S.has S.L ⟨1, u, t, r, v⟩) := Lib.hid (HDX.out.trans ((if_neg (fun h => h.2.2 (TXT.out.1 hq))).trans (if_neg (fun h => absurd h.1 (by decide)))))
        clear c0 c1 c2 c3 c4 d0 d1 d2 d3 y0 y1 y2 y3 y4 le lp lz fz SR HDX
        generalize hW2 : w2 = W2 at *
        refine wp_region_slots (frD7P2 sb eb zb p6 u t r v cs g1) dstD7P2 (fun k => if k = 7 then .nilIface else undef) (laysD7P2 sb u t r v fb q0 u0 g0 p0 b0 xv) (fun L g w => tellC V R fb vb n sec S.many many2 S.has has2 S.L L2 #[.int .i64 0, .string ⟨#[]⟩, .int .i64 0, .string ⟨#[]⟩, .string ⟨#[]⟩] #[.int .i64 q0, .string u0, .int .i64 g0, .string p0, .string b0] W2 (L 5) (L 9) (L 10) (g 9) w) (fun w w' => True) (by kernel_rfl) (by kernel_rfl) rfl ?_ (by kernel_rfl) (tellC.start HS4.out.vault HS4.out.feed) ?_ ?_
        · exact fun _ _ _ _ _ h => h
        · refine ⟨?_, ?_, ?_, ?_, ?_, ?_, ?_, ?_, ?_, ?_, ?_, ?_, trivial⟩
          all_goals (intro L gs w1 hLi hdeps hR hC; refine ends_of fun Q hQ => ?_)
          · have HQ := fun (a' : Act) (va : Value) (w' : World) (h1 : a' = frD7P2 sb eb zb p6 u t r v cs g1 (upd1 gs 58 va)) h2 (h3 : laysD7P2 sb u t r v fb q0 u0 g0 p0 b0 xv 0 va w') h4 => hQ.out a' w' ⟨va, h1, h2, h3, h4⟩
            unfold frD7P2
            go_wp2_with fail
            exact HQ _ (.pointer (some ⟨sb, 0, none⟩)) _ (by simp only [frD7P2, upd1, Nat.reduceEqDiff, reduceIte]) trivial rfl hC
          · have HQ := fun (a' : Act) (va : Value) (w' : World) (h1 : a' = frD7P2 sb eb zb p6 u t r v cs g1 (upd1 gs 59 va)) h2 (h3 : laysD7P2 sb u t r v fb q0 u0 g0 p0 b0 xv 1 va w') h4 => hQ.out a' w' ⟨va, h1, h2, h3, h4⟩
            have r0 : gs 58 = .pointer (some ⟨sb, 0, none⟩) := hR 0 (hdeps ⟨0, .data⟩ (by simp) rfl)
            unfold frD7P2
            go_wp2_with fail
            exact HQ _ (.pointer (some ⟨sb, 0, none⟩)) _ (by simp only [frD7P2, upd1, r0, Nat.reduceEqDiff, reduceIte]) trivial rfl hC
          · have HQ := fun (a' : Act) (va : Value) (w' : World) (h1 : a' = frD7P2 sb eb zb p6 u t r v cs g1 (upd1 gs 60 va)) h2 (h3 : laysD7P2 sb u t r v fb q0 u0 g0 p0 b0 xv 2 va w') h4 => hQ.out a' w' ⟨va, h1, h2, h3, h4⟩
            have r1 : gs 59 = .pointer (some ⟨sb, 0, none⟩) := hR 1 (hdeps ⟨1, .data⟩ (by simp) rfl)
            unfold frD7P2
            go_wp2_with fail
            exact HQ _ (.pointer (some ⟨sb, 1, none⟩)) _ (by simp only [frD7P2, upd1, r1, Nat.reduceEqDiff, reduceIte]) trivial rfl hC
          · have HQ := fun (a' : Act) (va : Value) (w' : World) (h1 : a' = frD7P2 sb eb zb p6 u t r v cs g1 (upd1 gs 61 va)) h2 (h3 : laysD7P2 sb u t r v fb q0 u0 g0 p0 b0 xv 3 va w') h4 => hQ.out a' w' ⟨va, h1, h2, h3, h4⟩
            have r2 : gs 60 = .pointer (some ⟨sb, 1, none⟩) := hR 2 (hdeps ⟨2, .data⟩ (by simp) rfl)
            have hb0 := (hC.keep HS4.out.cells.2.2 (by rintro (h | h); exact HS4.out.sb_.2.1 h; exact HS4.out.sb_.2.2 h)).trans HS4.out.tab.blk
            have c1 : w1.cell? ⟨sb, 1, none⟩ = some (.pointer (some ⟨fb, 0, none⟩)) := by rw [cell_in, hb0]; rfl
            have lw1 : sb < w1.heap.size := lt_of_heap hb0
            unfold frD7P2
            go_wp2_with fail
            exact HQ _ (.pointer (some ⟨fb, 0, none⟩)) _ (by simp only [frD7P2, upd1, r2, Nat.reduceEqDiff, reduceIte]) trivial rfl hC
          · have HQ := fun (a' : Act) (va : Value) (w' : World) (h1 : a' = frD7P2 sb eb zb p6 u t r v cs g1 (upd1 gs 62 va)) h2 (h3 : laysD7P2 sb u t r v fb q0 u0 g0 p0 b0 xv 4 va w') h4 => hQ.out a' w' ⟨va, h1, h2, h3, h4⟩
            have hb0 := (hC.keep (lt_of_heap E3.out) (by rintro (h | h); exact EF.out (HS4.out.subV _ h); exact EF.out (HS4.out.subR _ h))).trans E3.out
            obtain ⟨c0, c1, c2, c3, c4⟩ := ev5 (e := ⟨1, u, t, r, v⟩) hb0
            dsimp only at c0 c1 c2 c3 c4
            have lw1 : eb < w1.heap.size := lt_of_heap hb0
            unfold frD7P2
            go_wp2_with fail
            exact HQ _ (.agg #[.int .i64 1, .string u, .string t, .string r, .string v]) _ (by simp only [frD7P2, upd1, Nat.reduceEqDiff, reduceIte]) trivial rfl hC
          · have HQ := fun (a' : Act) (va : Value) (w' : World) (h1 : a' = frD7P2 sb eb zb p6 u t r v cs g1 (upd1 gs 63 va)) h2 (h3 : laysD7P2 sb u t r v fb q0 u0 g0 p0 b0 xv 5 va w') h4 => hQ.out a' w' ⟨va, h1, h2, h3, h4⟩
            have r3 : gs 61 = .pointer (some ⟨fb, 0, none⟩) := hR 3 (hdeps ⟨3, .data⟩ (by simp) rfl)
            have r4 : gs 62 = .agg #[.int .i64 1, .string u, .string t, .string r, .string v] := hR 4 (hdeps ⟨4, .data⟩ (by simp) rfl)
            have hbf := hC.before hLi
            obtain ⟨F2, hs2, hs3⟩ := hC.stepF HS4.out
            have hgl := ((G4.out.step hs2).sub (G := fun i => V i ∨ R i) (fun i h => hs3 i (HS4.out.subVR i h)))
            have HG := Lib.hid hgl
            have HBF := Lib.hid hbf
            clear hbf hgl hs2 hs3
            unfold frD7P2
            go_wp2_with fail
            refine (TL2.out w1 HBF.out.1 HBF.out.2 HG.out).mono ?_
            rintro _ w5 ⟨rfl, hts⟩
            go_wp2_with fail
            exact HQ _ (.tuple #[.agg #[.int .i64 q0, .string u0, .int .i64 g0, .string p0, .string b0], xv]) _ (by simp only [frD7P2, upd1, r3, r4, Nat.reduceEqDiff, reduceIte]) trivial rfl (hC.call hLi hts)
          · have HQ := fun (a' : Act) (va : Value) (w' : World) (h1 : a' = frD7P2 sb eb zb p6 u t r v cs g1 (upd1 gs 57 va)) h2 (h3 : laysD7P2 sb u t r v fb q0 u0 g0 p0 b0 xv 6 va w') h4 => hQ.out a' w' ⟨va, h1, h2, h3, h4⟩
            have r5 : gs 63 = .tuple #[.agg #[.int .i64 q0, .string u0, .int .i64 g0, .string p0, .string b0], xv] := hR 5 (hdeps ⟨5, .data⟩ (by simp) rfl)
            unfold frD7P2
            go_wp2_with fail
            exact HQ _ (.tuple #[.agg #[.int .i64 q0, .string u0, .int .i64 g0, .string p0, .string b0], xv]) _ (by simp only [frD7P2, upd1, r5, Nat.reduceEqDiff, reduceIte]) trivial rfl hC
          · have HQ := fun (a' : Act) (va : Value) (w' : World) (h1 : a' = frD7P2 sb eb zb p6 u t r v cs g1 (upd1 gs 64 va)) h2 (h3 : laysD7P2 sb u t r v fb q0 u0 g0 p0 b0 xv 7 va w') h4 => hQ.out a' w' ⟨va, h1, h2, h3, h4⟩
            have r6 : gs 57 = .tuple #[.agg #[.int .i64 q0, .string u0, .int .i64 g0, .string p0, .string b0], xv] := hR 6 (hdeps ⟨6, .data⟩ (by simp) rfl)
            unfold frD7P2
            go_wp2_with fail
            exact HQ _ (.agg #[.int .i64 q0, .string u0, .int .i64 g0, .string p0, .string b0]) _ (by simp only [frD7P2, upd1, r6, Nat.reduceEqDiff, reduceIte]) trivial rfl hC
          · have HQ := fun (a' : Act) (va : Value) (w' : World) (h1 : a' = frD7P2 sb eb zb p6 u t r v cs g1 (upd1 gs 65 va)) h2 (h3 : laysD7P2 sb u t r v fb q0 u0 g0 p0 b0 xv 8 va w') h4 => hQ.out a' w' ⟨va, h1, h2, h3, h4⟩
            have r6 : gs 57 = .tuple #[.agg #[.int .i64 q0, .string u0, .int .i64 g0, .string p0, .string b0], xv] := hR 6 (hdeps ⟨6, .data⟩ (by simp) rfl)
            unfold frD7P2
            go_wp2_with fail
            exact HQ _ (xv) _ (by simp only [frD7P2, upd1, r6, Nat.reduceEqDiff, reduceIte]) trivial rfl hC
          · have HQ := fun (a' : Act) (va : Value) (w' : World) (h1 : a' = frD7P2 sb eb zb p6 u t r v cs g1 (upd1 gs 9 va)) h2 (h3 : laysD7P2 sb u t r v fb q0 u0 g0 p0 b0 xv 9 va w') h4 => hQ.out a' w' ⟨va, h1, h2, h3, h4⟩
            unfold frD7P2
            go_wp2_with fail
            exact HQ _ (.pointer (some ⟨w1.heap.size, 0, none⟩)) _ (by simp only [frD7P2, upd1, Nat.reduceEqDiff, reduceIte]) trivial ⟨_, rfl⟩ (hC.made hLi)
          · have HQ := fun (a' : Act) (va : Value) (w' : World) (h1 : a' = frD7P2 sb eb zb p6 u t r v cs g1 (upd1 gs 1010 va)) h2 (h3 : laysD7P2 sb u t r v fb q0 u0 g0 p0 b0 xv 10 va w') h4 => hQ.out a' w' ⟨va, h1, h2, h3, h4⟩
            have r7 : gs 64 = .agg #[.int .i64 q0, .string u0, .int .i64 g0, .string p0, .string b0] := hR 7 (hdeps ⟨7, .data⟩ (by simp) rfl)
            have r9 := hR 9 (hdeps ⟨9, .data⟩ (by simp) rfl)
            have HC := Lib.hid hC
            obtain ⟨p, hp⟩ := r9
            change gs 9 = _ at hp
            have l9 : L 9 = true := hdeps ⟨9, .data⟩ (by simp) rfl
            obtain ⟨_, _, _, _, h4⟩ := hC
            obtain ⟨p', hp', hpl, hpb, _, _⟩ := h4 l9
            rw [hp] at hp'
            injection hp' with hp'
            injection hp' with hp'
            injection hp' with hp'
            subst hp'
            rw [show L 10 = false from hLi] at hpb
            have hpb : w1.heap[p]? = some (.cells #[.int .i64 0, .string ⟨#[]⟩, .int .i64 0, .string ⟨#[]⟩, .string ⟨#[]⟩] 108 (0, 0)) := hpb
            have lw1 := lt_of_heap hpb
            have ff := free_of_heap hpb
            have HH := Lib.hid (setRec5 hpb (.int .i64 q0) (.string u0) (.int .i64 g0) (.string p0) (.string b0))
            obtain ⟨z0, z1, z2, z3, z4⟩ := rec_cells (r := ⟨0, ⟨#[]⟩, 0, ⟨#[]⟩, ⟨#[]⟩⟩) hpb
            dsimp only at z0 z1 z2 z3 z4
            clear hpb h4
            unfold frD7P2
            go_wp2_with fail
            exact HQ _ undef _ (by simp only [frD7P2, upd1, r7, hp, Nat.reduceEqDiff, reduceIte]) trivial trivial (HC.out.put l9 hp HH.out.1 HH.out.2)
          · have HQ := fun (a' : Act) (va : Value) (w' : World) (h1 : a' = frD7P2 sb eb zb p6 u t r v cs g1 (upd1 gs 7 va)) h2 (h3 : laysD7P2 sb u t r v fb q0 u0 g0 p0 b0 xv 11 va w') h4 => hQ.out a' w' ⟨va, h1, h2, h3, h4⟩
            have r8 : gs 65 = xv := hR 8 (hdeps ⟨8, .data⟩ (by simp) rfl)
            unfold frD7P2
            go_wp2_with fail
            exact HQ _ (xv) _ (by simp only [frD7P2, upd1, r8, Nat.reduceEqDiff, reduceIte]) trivial rfl hC
        intro L7 g7 w8 hall hR hC
        obtain ⟨R', h1, ⟨h2, h2'⟩, h3, h4⟩ := hC
        rw [hall 5 (by decide), if_pos rfl] at h1
        obtain ⟨p9, hp9, hpl, hpb, hnV, hnR⟩ := h4 (hall 9 (by decide))
        rw [hall 10 (by decide), if_pos rfl] at hpb
        have s7 : g7 7 = xv := hR 11 (by decide)
        have V8 := Lib.hid h1.1
        have F8 := Lib.hid h1.2
        have ST8 := Lib.hid h2
        have NR8 := Lib.hid h2'
        have HP9 := Lib.hid hpb
        have ZL := Lib.hid (lt_of_heap Z3.out)
        have PL9 := Lib.hid hpl
        have hzk := h2.keep (lt_of_heap Z3.out) (by rintro (h | h); exact ZF.out (HS4.out.subV _ h); exact ZF.out (HS4.out.subR _ h))
        have hek := h2.keep (lt_of_heap E3.out) (by rintro (h | h); exact EF.out (HS4.out.subV _ h); exact EF.out (HS4.out.subR _ h))
        have Z8 := Lib.hid (hzk.1.trans Z3.out)
        have E8 := Lib.hid (hek.1.trans E3.out)
        have hbs := h2.keep HS4.out.cells.2.2 (by rintro (h | h); exact HS4.out.sb_.2.1 h; exact HS4.out.sb_.2.2 h)
        have T8 := Lib.hid ((HS4.out.tab.same hbs.1 (fun b hb => (h2.keep (HS4.out.lt _ (HS4.out.tm_ b hb).1) (by rintro (h | h); exact (HS4.out.tm_ b hb).2.1 h; exact (HS4.out.tm_ b hb).2.2 h)).1)).mono (by omega : n ≤ n + 2))
        clear h1 h2 h2' h3 h4 hpl hpb hnV hnR hall hR hzk hek hbs E3 Z3
        unfold frD7P2
        rw [hp9, s7]
        clear hp9 s7
        obtain ⟨y0, y1, y2, y3, y4⟩ := rec_cells (r := ⟨0, ⟨#[]⟩, 0, ⟨#[]⟩, ⟨#[]⟩⟩) Z8.out
        dsimp only at y0 y1 y2 y3 y4
        have lz := lt_of_heap Z8.out
        have fz := free_of_heap Z8.out
        by_cases hx0 : tellF S.has S.L ⟨1, u, t, r, v⟩ = 0
        · obtain rfl : Value.nilIface = xv := by rw [← HXV.out, if_pos hx0]
          have hright := (tellF_right hx0).1
          have AP8 := fun W h => AP.out W S.T (n + 2) (by omega) h
          rw [hright, if_pos rfl, show applyT okV ⟨1, u, t, r, v⟩ S.T = stepT ⟨1, u, t, r, v⟩ S.T by unfold applyT; rw [if_pos hright]] at AP8
          have HX0 := Lib.hid hx0
          clear hx0 hright AP TL2
          unfold evV at AP8
          dsimp only at AP8
          have AP8 := Lib.hid AP8
          obtain ⟨c0, c1, c2, c3, c4⟩ := ev5 (e := ⟨1, u, t, r, v⟩) E8.out
          dsimp only at c0 c1 c2 c3 c4
          have le := lt_of_heap E8.out
          go_wp2_with fail
          refine wp_region_tail 4 (by kernel_rfl) (by kernel_rfl) ?_
          simp only [List.take_succ_cons, List.take_zero, List.drop_succ_cons, List.drop_zero]
          repeat (go_big_quiet_step (fail))
          refine wpQuiet_nil ?_
          rintro _ ⟨x, rfl⟩
          have HX8 := Lib.hid (ext_trans (ext_refl w8) ⟨x, rfl⟩)
          generalize ext w8 x = wx at HX8 ⊢
          clear c0 c1 c2 c3 c4 le y0 y1 y2 y3 y4 lz fz
          have AP8 := AP8.out wx (T8.out.ext HX8.out)
          go_wp2_with fail
          refine AP8.mono ?_
          rintro _ w10 ⟨rfl, mb', t1, t2, t3, kk⟩
          have hkx := ((kept2.refl w8 sb tm).ext HX8.out).trans kk (fun b hb => .inl hb)
          have htl : ∀ b, tm = some b → b < W2.heap.size := fun b hb => HS4.out.lt _ (HS4.out.tm_ b hb).1
          have hsl := HS4.out.cells.2.2
          have HP10 := Lib.hid ((hkx.block p9 (lt_of_heap HP9.out) (fun e => by have := PL9.out; omega) (fun e => by have := htl p9 e.symm; have := PL9.out; omega)).trans HP9.out)
          have Z10 := Lib.hid ((hkx.block zb (lt_of_heap Z8.out) (fun e => ZF.out (e ▸ HS4.out.sb_.1)) (fun e => ZF.out (HS4.out.tm_ zb e.symm).1)).trans Z8.out)
          have TLD := Lib.hid (HS4.out.told ST8.out NR8.out V8.out F8.out t1 t2 (fun e b hb => Nat.le_trans (ext_iff.1 HX8.out).size (t3 e b hb)) hkx)
          clear t1 t2 t3 kk hkx htl hsl AP8 T8 HX8 HP9 Z8 E8
          obtain ⟨z0, z1, z2, z3, z4⟩ := rec_cells (r := ⟨q0, u0, g0, p0, b0⟩) HP10.out
          dsimp only at z0 z1 z2 z3 z4
          have lp := lt_of_heap HP10.out
          obtain ⟨y0, y1, y2, y3, y4⟩ := rec_cells (r := ⟨0, ⟨#[]⟩, 0, ⟨#[]⟩, ⟨#[]⟩⟩) Z10.out
          dsimp only at y0 y1 y2 y3 y4
          have lz := lt_of_heap Z10.out
          have fz := free_of_heap Z10.out
          have SR := Lib.hid (setRec5 Z10.out (.int .i64 q0) (.string u0) (.int .i64 g0) (.string p0) (.string b0))
          go_wp2_with fail
          generalize (((((w10.setCell ⟨zb, 0, none⟩ (.int .i64 q0)).setCell ⟨zb, 1, none⟩ (.string u0)).setCell ⟨zb, 2, none⟩ (.int .i64 g0)).setCell ⟨zb, 3, none⟩ (.string p0)).setCell ⟨zb, 4, none⟩ (.string b0)) = w9 at SR ⊢
          obtain ⟨SR1, SR2⟩ := SR.out
          have hX : X = 0 := HXT.out.trans HX0.out
          obtain ⟨F', hsr, hst⟩ := TLD.out
          rw [← HM2.out, ← HH2.out, ← HL2.out, if_pos HX0.out, if_pos HX0.out, if_pos HX0.out] at hsr
          have hzF : ¬ F' zb := fun h => (hst.sub _ h).elim (fun h => ZF.out h) (fun h => by have := ZL.out; omega)
          have hRR := HRR.out
          rw [if_pos HX0.out] at hRR
          exact ret_cells rfl rfl SR1 Tryz.underlying108 rfl (by kernel_rfl) rfl rfl (HP.out _ _ ⟨by rw [hX, if_pos rfl, if_pos rfl, hRR]; rfl, F', by rw [doSF_yes (by rw [HX.out]; exact hX)]; exact hsr.same (fun i hi => SR2.block i (hsr.lt i hi) (fun e => by injection e with e; subst e; exact hzF hi)) SR2.size, (KS2.out.trans hst).put SR2 (.inr (by omega))⟩)
        · obtain rfl : errV (tellF S.has S.L ⟨1, u, t, r, v⟩) = xv := by rw [← HXV.out, if_neg hx0]
          have hX : X ≠ 0 := by rw [HXT.out]; exact hx0
          have SR := Lib.hid (setRec5 Z8.out (.int .i64 0) (.string ⟨#[]⟩) (.int .i64 0) (.string ⟨#[]⟩) (.string ⟨#[]⟩))
          have HM3 := Lib.hid (HM2.out.symm.trans (if_neg hx0))
          have HH3 := Lib.hid (HH2.out.symm.trans (if_neg hx0))
          have HL3 := Lib.hid (HL2.out.symm.trans (if_neg hx0))
          have HXT := Lib.hid HXT.out
          clear hx0 AP TL2
          generalize tellF S.has S.L ⟨1, u, t, r, v⟩ = x8 at HXT ⊢
          have HNE := Lib.hid hX
          clear hX
          go_wp2_with fail
          generalize (((((w8.setCell ⟨zb, 0, none⟩ (.int .i64 0)).setCell ⟨zb, 1, none⟩ (.string ⟨#[]⟩)).setCell ⟨zb, 2, none⟩ (.int .i64 0)).setCell ⟨zb, 3, none⟩ (.string ⟨#[]⟩)).setCell ⟨zb, 4, none⟩ (.string ⟨#[]⟩)) = w9 at SR ⊢
          obtain ⟨SR1, SR2⟩ := SR.out
          have V9 := V8.out
          have F9 := F8.out
          rw [HM3.out, HH3.out] at V9
          rw [HL3.out] at F9
          obtain ⟨F', hsr, hst⟩ := HS4.out.refused ST8.out NR8.out V9 F9
          have hzF : ¬ F' zb := fun h => (hst.sub _ h).elim (fun h => ZF.out h) (fun h => by have := ZL.out; omega)
          exact ret_cells rfl rfl SR1 Tryz.underlying108 rfl (by kernel_rfl) rfl rfl (HP.out _ _ ⟨by rw [if_neg HNE.out, if_neg HNE.out, HXT.out]; rfl, F', by rw [doSF_no (by rw [HX.out]; exact HNE.out)]; exact hsr.same (fun i hi => SR2.block i (hsr.lt i hi) (fun e => by injection e with e; subst e; exact hzF hi)) SR2.size, (KS2.out.trans hst).put SR2 (.inr (by omega))⟩)
  · have k1' : (k == 1) = false := by simp [k1]
    by_cases k2 : k = 2
    · subst k2
      cases f with
      | false =>
        obtain rfl : errV 7 = ev0 := HEV.out
        go_wp2_with fail
        generalize (((((w2.setCell ⟨zb, 0, none⟩ (.int .i64 0)).setCell ⟨zb, 1, none⟩ (.string ⟨#[]⟩)).setCell ⟨zb, 2, none⟩ (.int .i64 0)).setCell ⟨zb, 3, none⟩ (.string ⟨#[]⟩)).setCell ⟨zb, 4, none⟩ (.string ⟨#[]⟩)) = w9 at SR ⊢
        obtain ⟨SR1, SR2⟩ := SR.out
        have hX : X = 7 := HDX.out.trans (by rw [if_neg (fun h => absurd h.1 (by decide)), if_pos ⟨by trivial, fun h => by cases h.1⟩])
        have hne : X ≠ 0 := by rw [hX]; decide
        have SRC : srcIn w9 V F sb vb n sec S := srcIn.same ⟨fb, R, tm, HS4.out⟩ (fun i hi => SR2.block i (HS4.out.lt i hi) (fun e => by injection e with e; subst e; exact ZF.out hi)) SR2.size
        exact ret_cells rfl rfl SR1 Tryz.underlying108 rfl (by kernel_rfl) rfl rfl (HP.out _ _ ⟨by rw [if_neg hne, if_neg hne, hX]; rfl, F, by rw [doSF_no (by rw [HX.out]; exact hne)]; exact SRC.mono (by omega), KS2.out.put SR2 (.inr (by omega))⟩)
      | true =>
        obtain rfl : Value.nilIface = ev0 := HEV.out
        cases hq : (cs.toList == u.toList) with
        | false =>
          go_wp2_with fail
          generalize (((((w2.setCell ⟨zb, 0, none⟩ (.int .i64 0)).setCell ⟨zb, 1, none⟩ (.string ⟨#[]⟩)).setCell ⟨zb, 2, none⟩ (.int .i64 0)).setCell ⟨zb, 3, none⟩ (.string ⟨#[]⟩)).setCell ⟨zb, 4, none⟩ (.string ⟨#[]⟩)) = w9 at SR ⊢
          obtain ⟨SR1, SR2⟩ := SR.out
          have hX : X = 7 := HDX.out.trans (by rw [if_neg (fun h => absurd h.1 (by decide)), if_pos ⟨by trivial, fun h => TXT.out.2 hq h.2⟩])
          have hne : X ≠ 0 := by rw [hX]; decide
          have SRC : srcIn w9 V F sb vb n sec S := srcIn.same ⟨fb, R, tm, HS4.out⟩ (fun i hi => SR2.block i (HS4.out.lt i hi) (fun e => by injection e with e; subst e; exact ZF.out hi)) SR2.size
          exact ret_cells rfl rfl SR1 Tryz.underlying108 rfl (by kernel_rfl) rfl rfl (HP.out _ _ ⟨by rw [if_neg hne, if_neg hne, hX]; rfl, F, by rw [doSF_no (by rw [HX.out]; exact hne)]; exact SRC.mono (by omega), KS2.out.put SR2 (.inr (by omega))⟩)
        | true =>
          go_wp2_with fail
          have HXT : Hid (X = tellF S.has S.L ⟨2, u, t, r, v⟩) := Lib.hid (HDX.out.trans ((if_neg (fun h => absurd h.1 (by decide))).trans (if_neg (fun h => h.2 ⟨by trivial, TXT.out.1 hq⟩))))
          clear c0 c1 c2 c3 c4 d0 d1 d2 d3 y0 y1 y2 y3 y4 le lp lz fz SR HDX
          generalize hW2 : w2 = W2 at *
          refine wp_region_slots (frD7P3 sb eb zb p6 u t r v cs g1) dstD7P3 (fun k => if k = 7 then .nilIface else undef) (laysD7P3 sb u t r v fb q0 u0 g0 p0 b0 xv) (fun L g w => tellC V R fb vb n sec S.many many2 S.has has2 S.L L2 #[.int .i64 0, .string ⟨#[]⟩, .int .i64 0, .string ⟨#[]⟩, .string ⟨#[]⟩] #[.int .i64 q0, .string u0, .int .i64 g0, .string p0, .string b0] W2 (L 5) (L 9) (L 10) (g 9) w) (fun w w' => True) (by kernel_rfl) (by kernel_rfl) rfl ?_ (by kernel_rfl) (tellC.start HS4.out.vault HS4.out.feed) ?_ ?_
          · exact fun _ _ _ _ _ h => h
          · refine ⟨?_, ?_, ?_, ?_, ?_, ?_, ?_, ?_, ?_, ?_, ?_, ?_, trivial⟩
            all_goals (intro L gs w1 hLi hdeps hR hC; refine ends_of fun Q hQ => ?_)
            · have HQ := fun (a' : Act) (va : Value) (w' : World) (h1 : a' = frD7P3 sb eb zb p6 u t r v cs g1 (upd1 gs 58 va)) h2 (h3 : laysD7P3 sb u t r v fb q0 u0 g0 p0 b0 xv 0 va w') h4 => hQ.out a' w' ⟨va, h1, h2, h3, h4⟩
              unfold frD7P3
              go_wp2_with fail
              exact HQ _ (.pointer (some ⟨sb, 0, none⟩)) _ (by simp only [frD7P3, upd1, Nat.reduceEqDiff, reduceIte]) trivial rfl hC
            · have HQ := fun (a' : Act) (va : Value) (w' : World) (h1 : a' = frD7P3 sb eb zb p6 u t r v cs g1 (upd1 gs 59 va)) h2 (h3 : laysD7P3 sb u t r v fb q0 u0 g0 p0 b0 xv 1 va w') h4 => hQ.out a' w' ⟨va, h1, h2, h3, h4⟩
              have r0 : gs 58 = .pointer (some ⟨sb, 0, none⟩) := hR 0 (hdeps ⟨0, .data⟩ (by simp) rfl)
              unfold frD7P3
              go_wp2_with fail
              exact HQ _ (.pointer (some ⟨sb, 0, none⟩)) _ (by simp only [frD7P3, upd1, r0, Nat.reduceEqDiff, reduceIte]) trivial rfl hC
            · have HQ := fun (a' : Act) (va : Value) (w' : World) (h1 : a' = frD7P3 sb eb zb p6 u t r v cs g1 (upd1 gs 60 va)) h2 (h3 : laysD7P3 sb u t r v fb q0 u0 g0 p0 b0 xv 2 va w') h4 => hQ.out a' w' ⟨va, h1, h2, h3, h4⟩
              have r1 : gs 59 = .pointer (some ⟨sb, 0, none⟩) := hR 1 (hdeps ⟨1, .data⟩ (by simp) rfl)
              unfold frD7P3
              go_wp2_with fail
              exact HQ _ (.pointer (some ⟨sb, 1, none⟩)) _ (by simp only [frD7P3, upd1, r1, Nat.reduceEqDiff, reduceIte]) trivial rfl hC
            · have HQ := fun (a' : Act) (va : Value) (w' : World) (h1 : a' = frD7P3 sb eb zb p6 u t r v cs g1 (upd1 gs 61 va)) h2 (h3 : laysD7P3 sb u t r v fb q0 u0 g0 p0 b0 xv 3 va w') h4 => hQ.out a' w' ⟨va, h1, h2, h3, h4⟩
              have r2 : gs 60 = .pointer (some ⟨sb, 1, none⟩) := hR 2 (hdeps ⟨2, .data⟩ (by simp) rfl)
              have hb0 := (hC.keep HS4.out.cells.2.2 (by rintro (h | h); exact HS4.out.sb_.2.1 h; exact HS4.out.sb_.2.2 h)).trans HS4.out.tab.blk
              have c1 : w1.cell? ⟨sb, 1, none⟩ = some (.pointer (some ⟨fb, 0, none⟩)) := by rw [cell_in, hb0]; rfl
              have lw1 : sb < w1.heap.size := lt_of_heap hb0
              unfold frD7P3
              go_wp2_with fail
              exact HQ _ (.pointer (some ⟨fb, 0, none⟩)) _ (by simp only [frD7P3, upd1, r2, Nat.reduceEqDiff, reduceIte]) trivial rfl hC
            · have HQ := fun (a' : Act) (va : Value) (w' : World) (h1 : a' = frD7P3 sb eb zb p6 u t r v cs g1 (upd1 gs 62 va)) h2 (h3 : laysD7P3 sb u t r v fb q0 u0 g0 p0 b0 xv 4 va w') h4 => hQ.out a' w' ⟨va, h1, h2, h3, h4⟩
              have hb0 := (hC.keep (lt_of_heap E3.out) (by rintro (h | h); exact EF.out (HS4.out.subV _ h); exact EF.out (HS4.out.subR _ h))).trans E3.out
              obtain ⟨c0, c1, c2, c3, c4⟩ := ev5 (e := ⟨2, u, t, r, v⟩) hb0
              dsimp only at c0 c1 c2 c3 c4
              have lw1 : eb < w1.heap.size := lt_of_heap hb0
              unfold frD7P3
              go_wp2_with fail
              exact HQ _ (.agg #[.int .i64 2, .string u, .string t, .string r, .string v]) _ (by simp only [frD7P3, upd1, Nat.reduceEqDiff, reduceIte]) trivial rfl hC
            · have HQ := fun (a' : Act) (va : Value) (w' : World) (h1 : a' = frD7P3 sb eb zb p6 u t r v cs g1 (upd1 gs 63 va)) h2 (h3 : laysD7P3 sb u t r v fb q0 u0 g0 p0 b0 xv 5 va w') h4 => hQ.out a' w' ⟨va, h1, h2, h3, h4⟩
              have r3 : gs 61 = .pointer (some ⟨fb, 0, none⟩) := hR 3 (hdeps ⟨3, .data⟩ (by simp) rfl)
              have r4 : gs 62 = .agg #[.int .i64 2, .string u, .string t, .string r, .string v] := hR 4 (hdeps ⟨4, .data⟩ (by simp) rfl)
              have hbf := hC.before hLi
              obtain ⟨F2, hs2, hs3⟩ := hC.stepF HS4.out
              have hgl := ((G4.out.step hs2).sub (G := fun i => V i ∨ R i) (fun i h => hs3 i (HS4.out.subVR i h)))
              have HG := Lib.hid hgl
              have HBF := Lib.hid hbf
              clear hbf hgl hs2 hs3
              unfold frD7P3
              go_wp2_with fail
              refine (TL2.out w1 HBF.out.1 HBF.out.2 HG.out).mono ?_
              rintro _ w5 ⟨rfl, hts⟩
              go_wp2_with fail
              exact HQ _ (.tuple #[.agg #[.int .i64 q0, .string u0, .int .i64 g0, .string p0, .string b0], xv]) _ (by simp only [frD7P3, upd1, r3, r4, Nat.reduceEqDiff, reduceIte]) trivial rfl (hC.call hLi hts)
            · have HQ := fun (a' : Act) (va : Value) (w' : World) (h1 : a' = frD7P3 sb eb zb p6 u t r v cs g1 (upd1 gs 57 va)) h2 (h3 : laysD7P3 sb u t r v fb q0 u0 g0 p0 b0 xv 6 va w') h4 => hQ.out a' w' ⟨va, h1, h2, h3, h4⟩
              have r5 : gs 63 = .tuple #[.agg #[.int .i64 q0, .string u0, .int .i64 g0, .string p0, .string b0], xv] := hR 5 (hdeps ⟨5, .data⟩ (by simp) rfl)
              unfold frD7P3
              go_wp2_with fail
              exact HQ _ (.tuple #[.agg #[.int .i64 q0, .string u0, .int .i64 g0, .string p0, .string b0], xv]) _ (by simp only [frD7P3, upd1, r5, Nat.reduceEqDiff, reduceIte]) trivial rfl hC
            · have HQ := fun (a' : Act) (va : Value) (w' : World) (h1 : a' = frD7P3 sb eb zb p6 u t r v cs g1 (upd1 gs 64 va)) h2 (h3 : laysD7P3 sb u t r v fb q0 u0 g0 p0 b0 xv 7 va w') h4 => hQ.out a' w' ⟨va, h1, h2, h3, h4⟩
              have r6 : gs 57 = .tuple #[.agg #[.int .i64 q0, .string u0, .int .i64 g0, .string p0, .string b0], xv] := hR 6 (hdeps ⟨6, .data⟩ (by simp) rfl)
              unfold frD7P3
              go_wp2_with fail
              exact HQ _ (.agg #[.int .i64 q0, .string u0, .int .i64 g0, .string p0, .string b0]) _ (by simp only [frD7P3, upd1, r6, Nat.reduceEqDiff, reduceIte]) trivial rfl hC
            · have HQ := fun (a' : Act) (va : Value) (w' : World) (h1 : a' = frD7P3 sb eb zb p6 u t r v cs g1 (upd1 gs 65 va)) h2 (h3 : laysD7P3 sb u t r v fb q0 u0 g0 p0 b0 xv 8 va w') h4 => hQ.out a' w' ⟨va, h1, h2, h3, h4⟩
              have r6 : gs 57 = .tuple #[.agg #[.int .i64 q0, .string u0, .int .i64 g0, .string p0, .string b0], xv] := hR 6 (hdeps ⟨6, .data⟩ (by simp) rfl)
              unfold frD7P3
              go_wp2_with fail
              exact HQ _ (xv) _ (by simp only [frD7P3, upd1, r6, Nat.reduceEqDiff, reduceIte]) trivial rfl hC
            · have HQ := fun (a' : Act) (va : Value) (w' : World) (h1 : a' = frD7P3 sb eb zb p6 u t r v cs g1 (upd1 gs 9 va)) h2 (h3 : laysD7P3 sb u t r v fb q0 u0 g0 p0 b0 xv 9 va w') h4 => hQ.out a' w' ⟨va, h1, h2, h3, h4⟩
              unfold frD7P3
              go_wp2_with fail
              exact HQ _ (.pointer (some ⟨w1.heap.size, 0, none⟩)) _ (by simp only [frD7P3, upd1, Nat.reduceEqDiff, reduceIte]) trivial ⟨_, rfl⟩ (hC.made hLi)
            · have HQ := fun (a' : Act) (va : Value) (w' : World) (h1 : a' = frD7P3 sb eb zb p6 u t r v cs g1 (upd1 gs 1010 va)) h2 (h3 : laysD7P3 sb u t r v fb q0 u0 g0 p0 b0 xv 10 va w') h4 => hQ.out a' w' ⟨va, h1, h2, h3, h4⟩
              have r7 : gs 64 = .agg #[.int .i64 q0, .string u0, .int .i64 g0, .string p0, .string b0] := hR 7 (hdeps ⟨7, .data⟩ (by simp) rfl)
              have r9 := hR 9 (hdeps ⟨9, .data⟩ (by simp) rfl)
              have HC := Lib.hid hC
              obtain ⟨p, hp⟩ := r9
              change gs 9 = _ at hp
              have l9 : L 9 = true := hdeps ⟨9, .data⟩ (by simp) rfl
              obtain ⟨_, _, _, _, h4⟩ := hC
              obtain ⟨p', hp', hpl, hpb, _, _⟩ := h4 l9
              rw [hp] at hp'
              injection hp' with hp'
              injection hp' with hp'
              injection hp' with hp'
              subst hp'
              rw [show L 10 = false from hLi] at hpb
              have hpb : w1.heap[p]? = some (.cells #[.int .i64 0, .string ⟨#[]⟩, .int .i64 0, .string ⟨#[]⟩, .string ⟨#[]⟩] 108 (0, 0)) := hpb
              have lw1 := lt_of_heap hpb
              have ff := free_of_heap hpb
              have HH := Lib.hid (setRec5 hpb (.int .i64 q0) (.string u0) (.int .i64 g0) (.string p0) (.string b0))
              obtain ⟨z0, z1, z2, z3, z4⟩ := rec_cells (r := ⟨0, ⟨#[]⟩, 0, ⟨#[]⟩, ⟨#[]⟩⟩) hpb
              dsimp only at z0 z1 z2 z3 z4
              clear hpb h4
              unfold frD7P3
              go_wp2_with fail
              exact HQ _ undef _ (by simp only [frD7P3, upd1, r7, hp, Nat.reduceEqDiff, reduceIte]) trivial trivial (HC.out.put l9 hp HH.out.1 HH.out.2)
            · have HQ := fun (a' : Act) (va : Value) (w' : World) (h1 : a' = frD7P3 sb eb zb p6 u t r v cs g1 (upd1 gs 7 va)) h2 (h3 : laysD7P3 sb u t r v fb q0 u0 g0 p0 b0 xv 11 va w') h4 => hQ.out a' w' ⟨va, h1, h2, h3, h4⟩
              have r8 : gs 65 = xv := hR 8 (hdeps ⟨8, .data⟩ (by simp) rfl)
              unfold frD7P3
              go_wp2_with fail
              exact HQ _ (xv) _ (by simp only [frD7P3, upd1, r8, Nat.reduceEqDiff, reduceIte]) trivial rfl hC
          intro L7 g7 w8 hall hR hC
          obtain ⟨R', h1, ⟨h2, h2'⟩, h3, h4⟩ := hC
          rw [hall 5 (by decide), if_pos rfl] at h1
          obtain ⟨p9, hp9, hpl, hpb, hnV, hnR⟩ := h4 (hall 9 (by decide))
          rw [hall 10 (by decide), if_pos rfl] at hpb
          have s7 : g7 7 = xv := hR 11 (by decide)
          have V8 := Lib.hid h1.1
          have F8 := Lib.hid h1.2
          have ST8 := Lib.hid h2
          have NR8 := Lib.hid h2'
          have HP9 := Lib.hid hpb
          have ZL := Lib.hid (lt_of_heap Z3.out)
          have PL9 := Lib.hid hpl
          have hzk := h2.keep (lt_of_heap Z3.out) (by rintro (h | h); exact ZF.out (HS4.out.subV _ h); exact ZF.out (HS4.out.subR _ h))
          have hek := h2.keep (lt_of_heap E3.out) (by rintro (h | h); exact EF.out (HS4.out.subV _ h); exact EF.out (HS4.out.subR _ h))
          have Z8 := Lib.hid (hzk.1.trans Z3.out)
          have E8 := Lib.hid (hek.1.trans E3.out)
          have hbs := h2.keep HS4.out.cells.2.2 (by rintro (h | h); exact HS4.out.sb_.2.1 h; exact HS4.out.sb_.2.2 h)
          have T8 := Lib.hid ((HS4.out.tab.same hbs.1 (fun b hb => (h2.keep (HS4.out.lt _ (HS4.out.tm_ b hb).1) (by rintro (h | h); exact (HS4.out.tm_ b hb).2.1 h; exact (HS4.out.tm_ b hb).2.2 h)).1)).mono (by omega : n ≤ n + 2))
          clear h1 h2 h2' h3 h4 hpl hpb hnV hnR hall hR hzk hek hbs E3 Z3
          unfold frD7P3
          rw [hp9, s7]
          clear hp9 s7
          obtain ⟨y0, y1, y2, y3, y4⟩ := rec_cells (r := ⟨0, ⟨#[]⟩, 0, ⟨#[]⟩, ⟨#[]⟩⟩) Z8.out
          dsimp only at y0 y1 y2 y3 y4
          have lz := lt_of_heap Z8.out
          have fz := free_of_heap Z8.out
          by_cases hx0 : tellF S.has S.L ⟨2, u, t, r, v⟩ = 0
          · obtain rfl : Value.nilIface = xv := by rw [← HXV.out, if_pos hx0]
            have hright := (tellF_right hx0).1
            have AP8 := fun W h => AP.out W S.T (n + 2) (by omega) h
            rw [hright, if_pos rfl, show applyT okV ⟨2, u, t, r, v⟩ S.T = stepT ⟨2, u, t, r, v⟩ S.T by unfold applyT; rw [if_pos hright]] at AP8
            have HX0 := Lib.hid hx0
            clear hx0 hright AP TL2
            unfold evV at AP8
            dsimp only at AP8
            have AP8 := Lib.hid AP8
            obtain ⟨c0, c1, c2, c3, c4⟩ := ev5 (e := ⟨2, u, t, r, v⟩) E8.out
            dsimp only at c0 c1 c2 c3 c4
            have le := lt_of_heap E8.out
            go_wp2_with fail
            refine wp_region_tail 4 (by kernel_rfl) (by kernel_rfl) ?_
            simp only [List.take_succ_cons, List.take_zero, List.drop_succ_cons, List.drop_zero]
            repeat (go_big_quiet_step (fail))
            refine wpQuiet_nil ?_
            rintro _ ⟨x, rfl⟩
            have HX8 := Lib.hid (ext_trans (ext_refl w8) ⟨x, rfl⟩)
            generalize ext w8 x = wx at HX8 ⊢
            clear c0 c1 c2 c3 c4 le y0 y1 y2 y3 y4 lz fz
            have AP8 := AP8.out wx (T8.out.ext HX8.out)
            go_wp2_with fail
            refine AP8.mono ?_
            rintro _ w10 ⟨rfl, mb', t1, t2, t3, kk⟩
            have hkx := ((kept2.refl w8 sb tm).ext HX8.out).trans kk (fun b hb => .inl hb)
            have htl : ∀ b, tm = some b → b < W2.heap.size := fun b hb => HS4.out.lt _ (HS4.out.tm_ b hb).1
            have hsl := HS4.out.cells.2.2
            have HP10 := Lib.hid ((hkx.block p9 (lt_of_heap HP9.out) (fun e => by have := PL9.out; omega) (fun e => by have := htl p9 e.symm; have := PL9.out; omega)).trans HP9.out)
            have Z10 := Lib.hid ((hkx.block zb (lt_of_heap Z8.out) (fun e => ZF.out (e ▸ HS4.out.sb_.1)) (fun e => ZF.out (HS4.out.tm_ zb e.symm).1)).trans Z8.out)
            have TLD := Lib.hid (HS4.out.told ST8.out NR8.out V8.out F8.out t1 t2 (fun e b hb => Nat.le_trans (ext_iff.1 HX8.out).size (t3 e b hb)) hkx)
            clear t1 t2 t3 kk hkx htl hsl AP8 T8 HX8 HP9 Z8 E8
            obtain ⟨z0, z1, z2, z3, z4⟩ := rec_cells (r := ⟨q0, u0, g0, p0, b0⟩) HP10.out
            dsimp only at z0 z1 z2 z3 z4
            have lp := lt_of_heap HP10.out
            obtain ⟨y0, y1, y2, y3, y4⟩ := rec_cells (r := ⟨0, ⟨#[]⟩, 0, ⟨#[]⟩, ⟨#[]⟩⟩) Z10.out
            dsimp only at y0 y1 y2 y3 y4
            have lz := lt_of_heap Z10.out
            have fz := free_of_heap Z10.out
            have SR := Lib.hid (setRec5 Z10.out (.int .i64 q0) (.string u0) (.int .i64 g0) (.string p0) (.string b0))
            go_wp2_with fail
            generalize (((((w10.setCell ⟨zb, 0, none⟩ (.int .i64 q0)).setCell ⟨zb, 1, none⟩ (.string u0)).setCell ⟨zb, 2, none⟩ (.int .i64 g0)).setCell ⟨zb, 3, none⟩ (.string p0)).setCell ⟨zb, 4, none⟩ (.string b0)) = w9 at SR ⊢
            obtain ⟨SR1, SR2⟩ := SR.out
            have hX : X = 0 := HXT.out.trans HX0.out
            obtain ⟨F', hsr, hst⟩ := TLD.out
            rw [← HM2.out, ← HH2.out, ← HL2.out, if_pos HX0.out, if_pos HX0.out, if_pos HX0.out] at hsr
            have hzF : ¬ F' zb := fun h => (hst.sub _ h).elim (fun h => ZF.out h) (fun h => by have := ZL.out; omega)
            have hRR := HRR.out
            rw [if_pos HX0.out] at hRR
            exact ret_cells rfl rfl SR1 Tryz.underlying108 rfl (by kernel_rfl) rfl rfl (HP.out _ _ ⟨by rw [hX, if_pos rfl, if_pos rfl, hRR]; rfl, F', by rw [doSF_yes (by rw [HX.out]; exact hX)]; exact hsr.same (fun i hi => SR2.block i (hsr.lt i hi) (fun e => by injection e with e; subst e; exact hzF hi)) SR2.size, (KS2.out.trans hst).put SR2 (.inr (by omega))⟩)
          · obtain rfl : errV (tellF S.has S.L ⟨2, u, t, r, v⟩) = xv := by rw [← HXV.out, if_neg hx0]
            have hX : X ≠ 0 := by rw [HXT.out]; exact hx0
            have SR := Lib.hid (setRec5 Z8.out (.int .i64 0) (.string ⟨#[]⟩) (.int .i64 0) (.string ⟨#[]⟩) (.string ⟨#[]⟩))
            have HM3 := Lib.hid (HM2.out.symm.trans (if_neg hx0))
            have HH3 := Lib.hid (HH2.out.symm.trans (if_neg hx0))
            have HL3 := Lib.hid (HL2.out.symm.trans (if_neg hx0))
            have HXT := Lib.hid HXT.out
            clear hx0 AP TL2
            generalize tellF S.has S.L ⟨2, u, t, r, v⟩ = x8 at HXT ⊢
            have HNE := Lib.hid hX
            clear hX
            go_wp2_with fail
            generalize (((((w8.setCell ⟨zb, 0, none⟩ (.int .i64 0)).setCell ⟨zb, 1, none⟩ (.string ⟨#[]⟩)).setCell ⟨zb, 2, none⟩ (.int .i64 0)).setCell ⟨zb, 3, none⟩ (.string ⟨#[]⟩)).setCell ⟨zb, 4, none⟩ (.string ⟨#[]⟩)) = w9 at SR ⊢
            obtain ⟨SR1, SR2⟩ := SR.out
            have V9 := V8.out
            have F9 := F8.out
            rw [HM3.out, HH3.out] at V9
            rw [HL3.out] at F9
            obtain ⟨F', hsr, hst⟩ := HS4.out.refused ST8.out NR8.out V9 F9
            have hzF : ¬ F' zb := fun h => (hst.sub _ h).elim (fun h => ZF.out h) (fun h => by have := ZL.out; omega)
            exact ret_cells rfl rfl SR1 Tryz.underlying108 rfl (by kernel_rfl) rfl rfl (HP.out _ _ ⟨by rw [if_neg HNE.out, if_neg HNE.out, HXT.out]; rfl, F', by rw [doSF_no (by rw [HX.out]; exact HNE.out)]; exact hsr.same (fun i hi => SR2.block i (hsr.lt i hi) (fun e => by injection e with e; subst e; exact hzF hi)) SR2.size, (KS2.out.trans hst).put SR2 (.inr (by omega))⟩)
    · have k2' : (k == 2) = false := by simp [k2]
      cases f with
      | false =>
        obtain rfl : errV 7 = ev0 := HEV.out
        go_wp2_with fail
        have HXT : Hid (X = tellF S.has S.L ⟨k, u, t, r, v⟩) := Lib.hid (HDX.out.trans ((if_neg (fun h => k1 h.1)).trans (if_neg (fun h => k2 h.1))))
        clear c0 c1 c2 c3 c4 d0 d1 d2 d3 y0 y1 y2 y3 y4 le lp lz fz SR HDX
        generalize hW2 : w2 = W2 at *
        refine wp_region_slots (frD7P4 sb eb zb p6 k u t r v g1) dstD7P4 (fun k => if k = 7 then errV 7 else undef) (laysD7P4 sb k u t r v fb q0 u0 g0 p0 b0 xv) (fun L g w => tellC V R fb vb n sec S.many many2 S.has has2 S.L L2 #[.int .i64 0, .string ⟨#[]⟩, .int .i64 0, .string ⟨#[]⟩, .string ⟨#[]⟩] #[.int .i64 q0, .string u0, .int .i64 g0, .string p0, .string b0] W2 (L 5) (L 9) (L 10) (g 9) w) (fun w w' => True) (by kernel_rfl) (by kernel_rfl) rfl ?_ (by kernel_rfl) (tellC.start HS4.out.vault HS4.out.feed) ?_ ?_
        · exact fun _ _ _ _ _ h => h
        · refine ⟨?_, ?_, ?_, ?_, ?_, ?_, ?_, ?_, ?_, ?_, ?_, ?_, trivial⟩
          all_goals (intro L gs w1 hLi hdeps hR hC; refine ends_of fun Q hQ => ?_)
          · have HQ := fun (a' : Act) (va : Value) (w' : World) (h1 : a' = frD7P4 sb eb zb p6 k u t r v g1 (upd1 gs 58 va)) h2 (h3 : laysD7P4 sb k u t r v fb q0 u0 g0 p0 b0 xv 0 va w') h4 => hQ.out a' w' ⟨va, h1, h2, h3, h4⟩
            unfold frD7P4
            go_wp2_with fail
            exact HQ _ (.pointer (some ⟨sb, 0, none⟩)) _ (by simp only [frD7P4, upd1, Nat.reduceEqDiff, reduceIte]) trivial rfl hC
          · have HQ := fun (a' : Act) (va : Value) (w' : World) (h1 : a' = frD7P4 sb eb zb p6 k u t r v g1 (upd1 gs 59 va)) h2 (h3 : laysD7P4 sb k u t r v fb q0 u0 g0 p0 b0 xv 1 va w') h4 => hQ.out a' w' ⟨va, h1, h2, h3, h4⟩
            have r0 : gs 58 = .pointer (some ⟨sb, 0, none⟩) := hR 0 (hdeps ⟨0, .data⟩ (by simp) rfl)
            unfold frD7P4
            go_wp2_with fail
            exact HQ _ (.pointer (some ⟨sb, 0, none⟩)) _ (by simp only [frD7P4, upd1, r0, Nat.reduceEqDiff, reduceIte]) trivial rfl hC
          · have HQ := fun (a' : Act) (va : Value) (w' : World) (h1 : a' = frD7P4 sb eb zb p6 k u t r v g1 (upd1 gs 60 va)) h2 (h3 : laysD7P4 sb k u t r v fb q0 u0 g0 p0 b0 xv 2 va w') h4 => hQ.out a' w' ⟨va, h1, h2, h3, h4⟩
            have r1 : gs 59 = .pointer (some ⟨sb, 0, none⟩) := hR 1 (hdeps ⟨1, .data⟩ (by simp) rfl)
            unfold frD7P4
            go_wp2_with fail
            exact HQ _ (.pointer (some ⟨sb, 1, none⟩)) _ (by simp only [frD7P4, upd1, r1, Nat.reduceEqDiff, reduceIte]) trivial rfl hC
          · have HQ := fun (a' : Act) (va : Value) (w' : World) (h1 : a' = frD7P4 sb eb zb p6 k u t r v g1 (upd1 gs 61 va)) h2 (h3 : laysD7P4 sb k u t r v fb q0 u0 g0 p0 b0 xv 3 va w') h4 => hQ.out a' w' ⟨va, h1, h2, h3, h4⟩
            have r2 : gs 60 = .pointer (some ⟨sb, 1, none⟩) := hR 2 (hdeps ⟨2, .data⟩ (by simp) rfl)
            have hb0 := (hC.keep HS4.out.cells.2.2 (by rintro (h | h); exact HS4.out.sb_.2.1 h; exact HS4.out.sb_.2.2 h)).trans HS4.out.tab.blk
            have c1 : w1.cell? ⟨sb, 1, none⟩ = some (.pointer (some ⟨fb, 0, none⟩)) := by rw [cell_in, hb0]; rfl
            have lw1 : sb < w1.heap.size := lt_of_heap hb0
            unfold frD7P4
            go_wp2_with fail
            exact HQ _ (.pointer (some ⟨fb, 0, none⟩)) _ (by simp only [frD7P4, upd1, r2, Nat.reduceEqDiff, reduceIte]) trivial rfl hC
          · have HQ := fun (a' : Act) (va : Value) (w' : World) (h1 : a' = frD7P4 sb eb zb p6 k u t r v g1 (upd1 gs 62 va)) h2 (h3 : laysD7P4 sb k u t r v fb q0 u0 g0 p0 b0 xv 4 va w') h4 => hQ.out a' w' ⟨va, h1, h2, h3, h4⟩
            have hb0 := (hC.keep (lt_of_heap E3.out) (by rintro (h | h); exact EF.out (HS4.out.subV _ h); exact EF.out (HS4.out.subR _ h))).trans E3.out
            obtain ⟨c0, c1, c2, c3, c4⟩ := ev5 (e := ⟨k, u, t, r, v⟩) hb0
            dsimp only at c0 c1 c2 c3 c4
            have lw1 : eb < w1.heap.size := lt_of_heap hb0
            unfold frD7P4
            go_wp2_with fail
            exact HQ _ (.agg #[.int .i64 k, .string u, .string t, .string r, .string v]) _ (by simp only [frD7P4, upd1, Nat.reduceEqDiff, reduceIte]) trivial rfl hC
          · have HQ := fun (a' : Act) (va : Value) (w' : World) (h1 : a' = frD7P4 sb eb zb p6 k u t r v g1 (upd1 gs 63 va)) h2 (h3 : laysD7P4 sb k u t r v fb q0 u0 g0 p0 b0 xv 5 va w') h4 => hQ.out a' w' ⟨va, h1, h2, h3, h4⟩
            have r3 : gs 61 = .pointer (some ⟨fb, 0, none⟩) := hR 3 (hdeps ⟨3, .data⟩ (by simp) rfl)
            have r4 : gs 62 = .agg #[.int .i64 k, .string u, .string t, .string r, .string v] := hR 4 (hdeps ⟨4, .data⟩ (by simp) rfl)
            have hbf := hC.before hLi
            obtain ⟨F2, hs2, hs3⟩ := hC.stepF HS4.out
            have hgl := ((G4.out.step hs2).sub (G := fun i => V i ∨ R i) (fun i h => hs3 i (HS4.out.subVR i h)))
            have HG := Lib.hid hgl
            have HBF := Lib.hid hbf
            clear hbf hgl hs2 hs3
            unfold frD7P4
            go_wp2_with fail
            refine (TL2.out w1 HBF.out.1 HBF.out.2 HG.out).mono ?_
            rintro _ w5 ⟨rfl, hts⟩
            go_wp2_with fail
            exact HQ _ (.tuple #[.agg #[.int .i64 q0, .string u0, .int .i64 g0, .string p0, .string b0], xv]) _ (by simp only [frD7P4, upd1, r3, r4, Nat.reduceEqDiff, reduceIte]) trivial rfl (hC.call hLi hts)
          · have HQ := fun (a' : Act) (va : Value) (w' : World) (h1 : a' = frD7P4 sb eb zb p6 k u t r v g1 (upd1 gs 57 va)) h2 (h3 : laysD7P4 sb k u t r v fb q0 u0 g0 p0 b0 xv 6 va w') h4 => hQ.out a' w' ⟨va, h1, h2, h3, h4⟩
            have r5 : gs 63 = .tuple #[.agg #[.int .i64 q0, .string u0, .int .i64 g0, .string p0, .string b0], xv] := hR 5 (hdeps ⟨5, .data⟩ (by simp) rfl)
            unfold frD7P4
            go_wp2_with fail
            exact HQ _ (.tuple #[.agg #[.int .i64 q0, .string u0, .int .i64 g0, .string p0, .string b0], xv]) _ (by simp only [frD7P4, upd1, r5, Nat.reduceEqDiff, reduceIte]) trivial rfl hC
          · have HQ := fun (a' : Act) (va : Value) (w' : World) (h1 : a' = frD7P4 sb eb zb p6 k u t r v g1 (upd1 gs 64 va)) h2 (h3 : laysD7P4 sb k u t r v fb q0 u0 g0 p0 b0 xv 7 va w') h4 => hQ.out a' w' ⟨va, h1, h2, h3, h4⟩
            have r6 : gs 57 = .tuple #[.agg #[.int .i64 q0, .string u0, .int .i64 g0, .string p0, .string b0], xv] := hR 6 (hdeps ⟨6, .data⟩ (by simp) rfl)
            unfold frD7P4
            go_wp2_with fail
            exact HQ _ (.agg #[.int .i64 q0, .string u0, .int .i64 g0, .string p0, .string b0]) _ (by simp only [frD7P4, upd1, r6, Nat.reduceEqDiff, reduceIte]) trivial rfl hC
          · have HQ := fun (a' : Act) (va : Value) (w' : World) (h1 : a' = frD7P4 sb eb zb p6 k u t r v g1 (upd1 gs 65 va)) h2 (h3 : laysD7P4 sb k u t r v fb q0 u0 g0 p0 b0 xv 8 va w') h4 => hQ.out a' w' ⟨va, h1, h2, h3, h4⟩
            have r6 : gs 57 = .tuple #[.agg #[.int .i64 q0, .string u0, .int .i64 g0, .string p0, .string b0], xv] := hR 6 (hdeps ⟨6, .data⟩ (by simp) rfl)
            unfold frD7P4
            go_wp2_with fail
            exact HQ _ (xv) _ (by simp only [frD7P4, upd1, r6, Nat.reduceEqDiff, reduceIte]) trivial rfl hC
          · have HQ := fun (a' : Act) (va : Value) (w' : World) (h1 : a' = frD7P4 sb eb zb p6 k u t r v g1 (upd1 gs 9 va)) h2 (h3 : laysD7P4 sb k u t r v fb q0 u0 g0 p0 b0 xv 9 va w') h4 => hQ.out a' w' ⟨va, h1, h2, h3, h4⟩
            unfold frD7P4
            go_wp2_with fail
            exact HQ _ (.pointer (some ⟨w1.heap.size, 0, none⟩)) _ (by simp only [frD7P4, upd1, Nat.reduceEqDiff, reduceIte]) trivial ⟨_, rfl⟩ (hC.made hLi)
          · have HQ := fun (a' : Act) (va : Value) (w' : World) (h1 : a' = frD7P4 sb eb zb p6 k u t r v g1 (upd1 gs 1010 va)) h2 (h3 : laysD7P4 sb k u t r v fb q0 u0 g0 p0 b0 xv 10 va w') h4 => hQ.out a' w' ⟨va, h1, h2, h3, h4⟩
            have r7 : gs 64 = .agg #[.int .i64 q0, .string u0, .int .i64 g0, .string p0, .string b0] := hR 7 (hdeps ⟨7, .data⟩ (by simp) rfl)
            have r9 := hR 9 (hdeps ⟨9, .data⟩ (by simp) rfl)
            have HC := Lib.hid hC
            obtain ⟨p, hp⟩ := r9
            change gs 9 = _ at hp
            have l9 : L 9 = true := hdeps ⟨9, .data⟩ (by simp) rfl
            obtain ⟨_, _, _, _, h4⟩ := hC
            obtain ⟨p', hp', hpl, hpb, _, _⟩ := h4 l9
            rw [hp] at hp'
            injection hp' with hp'
            injection hp' with hp'
            injection hp' with hp'
            subst hp'
            rw [show L 10 = false from hLi] at hpb
            have hpb : w1.heap[p]? = some (.cells #[.int .i64 0, .string ⟨#[]⟩, .int .i64 0, .string ⟨#[]⟩, .string ⟨#[]⟩] 108 (0, 0)) := hpb
            have lw1 := lt_of_heap hpb
            have ff := free_of_heap hpb
            have HH := Lib.hid (setRec5 hpb (.int .i64 q0) (.string u0) (.int .i64 g0) (.string p0) (.string b0))
            obtain ⟨z0, z1, z2, z3, z4⟩ := rec_cells (r := ⟨0, ⟨#[]⟩, 0, ⟨#[]⟩, ⟨#[]⟩⟩) hpb
            dsimp only at z0 z1 z2 z3 z4
            clear hpb h4
            unfold frD7P4
            go_wp2_with fail
            exact HQ _ undef _ (by simp only [frD7P4, upd1, r7, hp, Nat.reduceEqDiff, reduceIte]) trivial trivial (HC.out.put l9 hp HH.out.1 HH.out.2)
          · have HQ := fun (a' : Act) (va : Value) (w' : World) (h1 : a' = frD7P4 sb eb zb p6 k u t r v g1 (upd1 gs 7 va)) h2 (h3 : laysD7P4 sb k u t r v fb q0 u0 g0 p0 b0 xv 11 va w') h4 => hQ.out a' w' ⟨va, h1, h2, h3, h4⟩
            have r8 : gs 65 = xv := hR 8 (hdeps ⟨8, .data⟩ (by simp) rfl)
            unfold frD7P4
            go_wp2_with fail
            exact HQ _ (xv) _ (by simp only [frD7P4, upd1, r8, Nat.reduceEqDiff, reduceIte]) trivial rfl hC
        intro L7 g7 w8 hall hR hC
        obtain ⟨R', h1, ⟨h2, h2'⟩, h3, h4⟩ := hC
        rw [hall 5 (by decide), if_pos rfl] at h1
        obtain ⟨p9, hp9, hpl, hpb, hnV, hnR⟩ := h4 (hall 9 (by decide))
        rw [hall 10 (by decide), if_pos rfl] at hpb
        have s7 : g7 7 = xv := hR 11 (by decide)
        have V8 := Lib.hid h1.1
        have F8 := Lib.hid h1.2
        have ST8 := Lib.hid h2
        have NR8 := Lib.hid h2'
        have HP9 := Lib.hid hpb
        have ZL := Lib.hid (lt_of_heap Z3.out)
        have PL9 := Lib.hid hpl
        have hzk := h2.keep (lt_of_heap Z3.out) (by rintro (h | h); exact ZF.out (HS4.out.subV _ h); exact ZF.out (HS4.out.subR _ h))
        have hek := h2.keep (lt_of_heap E3.out) (by rintro (h | h); exact EF.out (HS4.out.subV _ h); exact EF.out (HS4.out.subR _ h))
        have Z8 := Lib.hid (hzk.1.trans Z3.out)
        have E8 := Lib.hid (hek.1.trans E3.out)
        have hbs := h2.keep HS4.out.cells.2.2 (by rintro (h | h); exact HS4.out.sb_.2.1 h; exact HS4.out.sb_.2.2 h)
        have T8 := Lib.hid ((HS4.out.tab.same hbs.1 (fun b hb => (h2.keep (HS4.out.lt _ (HS4.out.tm_ b hb).1) (by rintro (h | h); exact (HS4.out.tm_ b hb).2.1 h; exact (HS4.out.tm_ b hb).2.2 h)).1)).mono (by omega : n ≤ n + 2))
        clear h1 h2 h2' h3 h4 hpl hpb hnV hnR hall hR hzk hek hbs E3 Z3
        unfold frD7P4
        rw [hp9, s7]
        clear hp9 s7
        obtain ⟨y0, y1, y2, y3, y4⟩ := rec_cells (r := ⟨0, ⟨#[]⟩, 0, ⟨#[]⟩, ⟨#[]⟩⟩) Z8.out
        dsimp only at y0 y1 y2 y3 y4
        have lz := lt_of_heap Z8.out
        have fz := free_of_heap Z8.out
        by_cases hx0 : tellF S.has S.L ⟨k, u, t, r, v⟩ = 0
        · obtain rfl : Value.nilIface = xv := by rw [← HXV.out, if_pos hx0]
          have hright := (tellF_right hx0).1
          have AP8 := fun W h => AP.out W S.T (n + 2) (by omega) h
          rw [hright, if_pos rfl, show applyT okV ⟨k, u, t, r, v⟩ S.T = stepT ⟨k, u, t, r, v⟩ S.T by unfold applyT; rw [if_pos hright]] at AP8
          have HX0 := Lib.hid hx0
          clear hx0 hright AP TL2
          unfold evV at AP8
          dsimp only at AP8
          have AP8 := Lib.hid AP8
          obtain ⟨c0, c1, c2, c3, c4⟩ := ev5 (e := ⟨k, u, t, r, v⟩) E8.out
          dsimp only at c0 c1 c2 c3 c4
          have le := lt_of_heap E8.out
          go_wp2_with fail
          refine wp_region_tail 4 (by kernel_rfl) (by kernel_rfl) ?_
          simp only [List.take_succ_cons, List.take_zero, List.drop_succ_cons, List.drop_zero]
          repeat (go_big_quiet_step (fail))
          refine wpQuiet_nil ?_
          rintro _ ⟨x, rfl⟩
          have HX8 := Lib.hid (ext_trans (ext_refl w8) ⟨x, rfl⟩)
          generalize ext w8 x = wx at HX8 ⊢
          clear c0 c1 c2 c3 c4 le y0 y1 y2 y3 y4 lz fz
          have AP8 := AP8.out wx (T8.out.ext HX8.out)
          go_wp2_with fail
          refine AP8.mono ?_
          rintro _ w10 ⟨rfl, mb', t1, t2, t3, kk⟩
          have hkx := ((kept2.refl w8 sb tm).ext HX8.out).trans kk (fun b hb => .inl hb)
          have htl : ∀ b, tm = some b → b < W2.heap.size := fun b hb => HS4.out.lt _ (HS4.out.tm_ b hb).1
          have hsl := HS4.out.cells.2.2
          have HP10 := Lib.hid ((hkx.block p9 (lt_of_heap HP9.out) (fun e => by have := PL9.out; omega) (fun e => by have := htl p9 e.symm; have := PL9.out; omega)).trans HP9.out)
          have Z10 := Lib.hid ((hkx.block zb (lt_of_heap Z8.out) (fun e => ZF.out (e ▸ HS4.out.sb_.1)) (fun e => ZF.out (HS4.out.tm_ zb e.symm).1)).trans Z8.out)
          have TLD := Lib.hid (HS4.out.told ST8.out NR8.out V8.out F8.out t1 t2 (fun e b hb => Nat.le_trans (ext_iff.1 HX8.out).size (t3 e b hb)) hkx)
          clear t1 t2 t3 kk hkx htl hsl AP8 T8 HX8 HP9 Z8 E8
          obtain ⟨z0, z1, z2, z3, z4⟩ := rec_cells (r := ⟨q0, u0, g0, p0, b0⟩) HP10.out
          dsimp only at z0 z1 z2 z3 z4
          have lp := lt_of_heap HP10.out
          obtain ⟨y0, y1, y2, y3, y4⟩ := rec_cells (r := ⟨0, ⟨#[]⟩, 0, ⟨#[]⟩, ⟨#[]⟩⟩) Z10.out
          dsimp only at y0 y1 y2 y3 y4
          have lz := lt_of_heap Z10.out
          have fz := free_of_heap Z10.out
          have SR := Lib.hid (setRec5 Z10.out (.int .i64 q0) (.string u0) (.int .i64 g0) (.string p0) (.string b0))
          go_wp2_with fail
          generalize (((((w10.setCell ⟨zb, 0, none⟩ (.int .i64 q0)).setCell ⟨zb, 1, none⟩ (.string u0)).setCell ⟨zb, 2, none⟩ (.int .i64 g0)).setCell ⟨zb, 3, none⟩ (.string p0)).setCell ⟨zb, 4, none⟩ (.string b0)) = w9 at SR ⊢
          obtain ⟨SR1, SR2⟩ := SR.out
          have hX : X = 0 := HXT.out.trans HX0.out
          obtain ⟨F', hsr, hst⟩ := TLD.out
          rw [← HM2.out, ← HH2.out, ← HL2.out, if_pos HX0.out, if_pos HX0.out, if_pos HX0.out] at hsr
          have hzF : ¬ F' zb := fun h => (hst.sub _ h).elim (fun h => ZF.out h) (fun h => by have := ZL.out; omega)
          have hRR := HRR.out
          rw [if_pos HX0.out] at hRR
          exact ret_cells rfl rfl SR1 Tryz.underlying108 rfl (by kernel_rfl) rfl rfl (HP.out _ _ ⟨by rw [hX, if_pos rfl, if_pos rfl, hRR]; rfl, F', by rw [doSF_yes (by rw [HX.out]; exact hX)]; exact hsr.same (fun i hi => SR2.block i (hsr.lt i hi) (fun e => by injection e with e; subst e; exact hzF hi)) SR2.size, (KS2.out.trans hst).put SR2 (.inr (by omega))⟩)
        · obtain rfl : errV (tellF S.has S.L ⟨k, u, t, r, v⟩) = xv := by rw [← HXV.out, if_neg hx0]
          have hX : X ≠ 0 := by rw [HXT.out]; exact hx0
          have SR := Lib.hid (setRec5 Z8.out (.int .i64 0) (.string ⟨#[]⟩) (.int .i64 0) (.string ⟨#[]⟩) (.string ⟨#[]⟩))
          have HM3 := Lib.hid (HM2.out.symm.trans (if_neg hx0))
          have HH3 := Lib.hid (HH2.out.symm.trans (if_neg hx0))
          have HL3 := Lib.hid (HL2.out.symm.trans (if_neg hx0))
          have HXT := Lib.hid HXT.out
          clear hx0 AP TL2
          generalize tellF S.has S.L ⟨k, u, t, r, v⟩ = x8 at HXT ⊢
          have HNE := Lib.hid hX
          clear hX
          go_wp2_with fail
          generalize (((((w8.setCell ⟨zb, 0, none⟩ (.int .i64 0)).setCell ⟨zb, 1, none⟩ (.string ⟨#[]⟩)).setCell ⟨zb, 2, none⟩ (.int .i64 0)).setCell ⟨zb, 3, none⟩ (.string ⟨#[]⟩)).setCell ⟨zb, 4, none⟩ (.string ⟨#[]⟩)) = w9 at SR ⊢
          obtain ⟨SR1, SR2⟩ := SR.out
          have V9 := V8.out
          have F9 := F8.out
          rw [HM3.out, HH3.out] at V9
          rw [HL3.out] at F9
          obtain ⟨F', hsr, hst⟩ := HS4.out.refused ST8.out NR8.out V9 F9
          have hzF : ¬ F' zb := fun h => (hst.sub _ h).elim (fun h => ZF.out h) (fun h => by have := ZL.out; omega)
          exact ret_cells rfl rfl SR1 Tryz.underlying108 rfl (by kernel_rfl) rfl rfl (HP.out _ _ ⟨by rw [if_neg HNE.out, if_neg HNE.out, HXT.out]; rfl, F', by rw [doSF_no (by rw [HX.out]; exact HNE.out)]; exact hsr.same (fun i hi => SR2.block i (hsr.lt i hi) (fun e => by injection e with e; subst e; exact hzF hi)) SR2.size, (KS2.out.trans hst).put SR2 (.inr (by omega))⟩)
      | true =>
        obtain rfl : Value.nilIface = ev0 := HEV.out
        go_wp2_with fail
        have HXT : Hid (X = tellF S.has S.L ⟨k, u, t, r, v⟩) := Lib.hid (HDX.out.trans ((if_neg (fun h => k1 h.1)).trans (if_neg (fun h => k2 h.1))))
        clear c0 c1 c2 c3 c4 d0 d1 d2 d3 y0 y1 y2 y3 y4 le lp lz fz SR HDX
        generalize hW2 : w2 = W2 at *
        refine wp_region_slots (frD7P5 sb eb zb p6 k u t r v g1) dstD7P5 (fun k => if k = 7 then .nilIface else undef) (laysD7P5 sb k u t r v fb q0 u0 g0 p0 b0 xv) (fun L g w => tellC V R fb vb n sec S.many many2 S.has has2 S.L L2 #[.int .i64 0, .string ⟨#[]⟩, .int .i64 0, .string ⟨#[]⟩, .string ⟨#[]⟩] #[.int .i64 q0, .string u0, .int .i64 g0, .string p0, .string b0] W2 (L 5) (L 9) (L 10) (g 9) w) (fun w w' => True) (by kernel_rfl) (by kernel_rfl) rfl ?_ (by kernel_rfl) (tellC.start HS4.out.vault HS4.out.feed) ?_ ?_
        · exact fun _ _ _ _ _ h => h
        · refine ⟨?_, ?_, ?_, ?_, ?_, ?_, ?_, ?_, ?_, ?_, ?_, ?_, trivial⟩
          all_goals (intro L gs w1 hLi hdeps hR hC; refine ends_of fun Q hQ => ?_)
          · have HQ := fun (a' : Act) (va : Value) (w' : World) (h1 : a' = frD7P5 sb eb zb p6 k u t r v g1 (upd1 gs 58 va)) h2 (h3 : laysD7P5 sb k u t r v fb q0 u0 g0 p0 b0 xv 0 va w') h4 => hQ.out a' w' ⟨va, h1, h2, h3, h4⟩
            unfold frD7P5
            go_wp2_with fail
            exact HQ _ (.pointer (some ⟨sb, 0, none⟩)) _ (by simp only [frD7P5, upd1, Nat.reduceEqDiff, reduceIte]) trivial rfl hC
          · have HQ := fun (a' : Act) (va : Value) (w' : World) (h1 : a' = frD7P5 sb eb zb p6 k u t r v g1 (upd1 gs 59 va)) h2 (h3 : laysD7P5 sb k u t r v fb q0 u0 g0 p0 b0 xv 1 va w') h4 => hQ.out a' w' ⟨va, h1, h2, h3, h4⟩
            have r0 : gs 58 = .pointer (some ⟨sb, 0, none⟩) := hR 0 (hdeps ⟨0, .data⟩ (by simp) rfl)
            unfold frD7P5
            go_wp2_with fail
            exact HQ _ (.pointer (some ⟨sb, 0, none⟩)) _ (by simp only [frD7P5, upd1, r0, Nat.reduceEqDiff, reduceIte]) trivial rfl hC
          · have HQ := fun (a' : Act) (va : Value) (w' : World) (h1 : a' = frD7P5 sb eb zb p6 k u t r v g1 (upd1 gs 60 va)) h2 (h3 : laysD7P5 sb k u t r v fb q0 u0 g0 p0 b0 xv 2 va w') h4 => hQ.out a' w' ⟨va, h1, h2, h3, h4⟩
            have r1 : gs 59 = .pointer (some ⟨sb, 0, none⟩) := hR 1 (hdeps ⟨1, .data⟩ (by simp) rfl)
            unfold frD7P5
            go_wp2_with fail
            exact HQ _ (.pointer (some ⟨sb, 1, none⟩)) _ (by simp only [frD7P5, upd1, r1, Nat.reduceEqDiff, reduceIte]) trivial rfl hC
          · have HQ := fun (a' : Act) (va : Value) (w' : World) (h1 : a' = frD7P5 sb eb zb p6 k u t r v g1 (upd1 gs 61 va)) h2 (h3 : laysD7P5 sb k u t r v fb q0 u0 g0 p0 b0 xv 3 va w') h4 => hQ.out a' w' ⟨va, h1, h2, h3, h4⟩
            have r2 : gs 60 = .pointer (some ⟨sb, 1, none⟩) := hR 2 (hdeps ⟨2, .data⟩ (by simp) rfl)
            have hb0 := (hC.keep HS4.out.cells.2.2 (by rintro (h | h); exact HS4.out.sb_.2.1 h; exact HS4.out.sb_.2.2 h)).trans HS4.out.tab.blk
            have c1 : w1.cell? ⟨sb, 1, none⟩ = some (.pointer (some ⟨fb, 0, none⟩)) := by rw [cell_in, hb0]; rfl
            have lw1 : sb < w1.heap.size := lt_of_heap hb0
            unfold frD7P5
            go_wp2_with fail
            exact HQ _ (.pointer (some ⟨fb, 0, none⟩)) _ (by simp only [frD7P5, upd1, r2, Nat.reduceEqDiff, reduceIte]) trivial rfl hC
          · have HQ := fun (a' : Act) (va : Value) (w' : World) (h1 : a' = frD7P5 sb eb zb p6 k u t r v g1 (upd1 gs 62 va)) h2 (h3 : laysD7P5 sb k u t r v fb q0 u0 g0 p0 b0 xv 4 va w') h4 => hQ.out a' w' ⟨va, h1, h2, h3, h4⟩
            have hb0 := (hC.keep (lt_of_heap E3.out) (by rintro (h | h); exact EF.out (HS4.out.subV _ h); exact EF.out (HS4.out.subR _ h))).trans E3.out
            obtain ⟨c0, c1, c2, c3, c4⟩ := ev5 (e := ⟨k, u, t, r, v⟩) hb0
            dsimp only at c0 c1 c2 c3 c4
            have lw1 : eb < w1.heap.size := lt_of_heap hb0
            unfold frD7P5
            go_wp2_with fail
            exact HQ _ (.agg #[.int .i64 k, .string u, .string t, .string r, .string v]) _ (by simp only [frD7P5, upd1, Nat.reduceEqDiff, reduceIte]) trivial rfl hC
          · have HQ := fun (a' : Act) (va : Value) (w' : World) (h1 : a' = frD7P5 sb eb zb p6 k u t r v g1 (upd1 gs 63 va)) h2 (h3 : laysD7P5 sb k u t r v fb q0 u0 g0 p0 b0 xv 5 va w') h4 => hQ.out a' w' ⟨va, h1, h2, h3, h4⟩
            have r3 : gs 61 = .pointer (some ⟨fb, 0, none⟩) := hR 3 (hdeps ⟨3, .data⟩ (by simp) rfl)
            have r4 : gs 62 = .agg #[.int .i64 k, .string u, .string t, .string r, .string v] := hR 4 (hdeps ⟨4, .data⟩ (by simp) rfl)
            have hbf := hC.before hLi
            obtain ⟨F2, hs2, hs3⟩ := hC.stepF HS4.out
            have hgl := ((G4.out.step hs2).sub (G := fun i => V i ∨ R i) (fun i h => hs3 i (HS4.out.subVR i h)))
            have HG := Lib.hid hgl
            have HBF := Lib.hid hbf
            clear hbf hgl hs2 hs3
            unfold frD7P5
            go_wp2_with fail
            refine (TL2.out w1 HBF.out.1 HBF.out.2 HG.out).mono ?_
            rintro _ w5 ⟨rfl, hts⟩
            go_wp2_with fail
            exact HQ _ (.tuple #[.agg #[.int .i64 q0, .string u0, .int .i64 g0, .string p0, .string b0], xv]) _ (by simp only [frD7P5, upd1, r3, r4, Nat.reduceEqDiff, reduceIte]) trivial rfl (hC.call hLi hts)
          · have HQ := fun (a' : Act) (va : Value) (w' : World) (h1 : a' = frD7P5 sb eb zb p6 k u t r v g1 (upd1 gs 57 va)) h2 (h3 : laysD7P5 sb k u t r v fb q0 u0 g0 p0 b0 xv 6 va w') h4 => hQ.out a' w' ⟨va, h1, h2, h3, h4⟩
            have r5 : gs 63 = .tuple #[.agg #[.int .i64 q0, .string u0, .int .i64 g0, .string p0, .string b0], xv] := hR 5 (hdeps ⟨5, .data⟩ (by simp) rfl)
            unfold frD7P5
            go_wp2_with fail
            exact HQ _ (.tuple #[.agg #[.int .i64 q0, .string u0, .int .i64 g0, .string p0, .string b0], xv]) _ (by simp only [frD7P5, upd1, r5, Nat.reduceEqDiff, reduceIte]) trivial rfl hC
          · have HQ := fun (a' : Act) (va : Value) (w' : World) (h1 : a' = frD7P5 sb eb zb p6 k u t r v g1 (upd1 gs 64 va)) h2 (h3 : laysD7P5 sb k u t r v fb q0 u0 g0 p0 b0 xv 7 va w') h4 => hQ.out a' w' ⟨va, h1, h2, h3, h4⟩
            have r6 : gs 57 = .tuple #[.agg #[.int .i64 q0, .string u0, .int .i64 g0, .string p0, .string b0], xv] := hR 6 (hdeps ⟨6, .data⟩ (by simp) rfl)
            unfold frD7P5
            go_wp2_with fail
            exact HQ _ (.agg #[.int .i64 q0, .string u0, .int .i64 g0, .string p0, .string b0]) _ (by simp only [frD7P5, upd1, r6, Nat.reduceEqDiff, reduceIte]) trivial rfl hC
          · have HQ := fun (a' : Act) (va : Value) (w' : World) (h1 : a' = frD7P5 sb eb zb p6 k u t r v g1 (upd1 gs 65 va)) h2 (h3 : laysD7P5 sb k u t r v fb q0 u0 g0 p0 b0 xv 8 va w') h4 => hQ.out a' w' ⟨va, h1, h2, h3, h4⟩
            have r6 : gs 57 = .tuple #[.agg #[.int .i64 q0, .string u0, .int .i64 g0, .string p0, .string b0], xv] := hR 6 (hdeps ⟨6, .data⟩ (by simp) rfl)
            unfold frD7P5
            go_wp2_with fail
            exact HQ _ (xv) _ (by simp only [frD7P5, upd1, r6, Nat.reduceEqDiff, reduceIte]) trivial rfl hC
          · have HQ := fun (a' : Act) (va : Value) (w' : World) (h1 : a' = frD7P5 sb eb zb p6 k u t r v g1 (upd1 gs 9 va)) h2 (h3 : laysD7P5 sb k u t r v fb q0 u0 g0 p0 b0 xv 9 va w') h4 => hQ.out a' w' ⟨va, h1, h2, h3, h4⟩
            unfold frD7P5
            go_wp2_with fail
            exact HQ _ (.pointer (some ⟨w1.heap.size, 0, none⟩)) _ (by simp only [frD7P5, upd1, Nat.reduceEqDiff, reduceIte]) trivial ⟨_, rfl⟩ (hC.made hLi)
          · have HQ := fun (a' : Act) (va : Value) (w' : World) (h1 : a' = frD7P5 sb eb zb p6 k u t r v g1 (upd1 gs 1010 va)) h2 (h3 : laysD7P5 sb k u t r v fb q0 u0 g0 p0 b0 xv 10 va w') h4 => hQ.out a' w' ⟨va, h1, h2, h3, h4⟩
            have r7 : gs 64 = .agg #[.int .i64 q0, .string u0, .int .i64 g0, .string p0, .string b0] := hR 7 (hdeps ⟨7, .data⟩ (by simp) rfl)
            have r9 := hR 9 (hdeps ⟨9, .data⟩ (by simp) rfl)
            have HC := Lib.hid hC
            obtain ⟨p, hp⟩ := r9
            change gs 9 = _ at hp
            have l9 : L 9 = true := hdeps ⟨9, .data⟩ (by simp) rfl
            obtain ⟨_, _, _, _, h4⟩ := hC
            obtain ⟨p', hp', hpl, hpb, _, _⟩ := h4 l9
            rw [hp] at hp'
            injection hp' with hp'
            injection hp' with hp'
            injection hp' with hp'
            subst hp'
            rw [show L 10 = false from hLi] at hpb
            have hpb : w1.heap[p]? = some (.cells #[.int .i64 0, .string ⟨#[]⟩, .int .i64 0, .string ⟨#[]⟩, .string ⟨#[]⟩] 108 (0, 0)) := hpb
            have lw1 := lt_of_heap hpb
            have ff := free_of_heap hpb
            have HH := Lib.hid (setRec5 hpb (.int .i64 q0) (.string u0) (.int .i64 g0) (.string p0) (.string b0))
            obtain ⟨z0, z1, z2, z3, z4⟩ := rec_cells (r := ⟨0, ⟨#[]⟩, 0, ⟨#[]⟩, ⟨#[]⟩⟩) hpb
            dsimp only at z0 z1 z2 z3 z4
            clear hpb h4
            unfold frD7P5
            go_wp2_with fail
            exact HQ _ undef _ (by simp only [frD7P5, upd1, r7, hp, Nat.reduceEqDiff, reduceIte]) trivial trivial (HC.out.put l9 hp HH.out.1 HH.out.2)
          · have HQ := fun (a' : Act) (va : Value) (w' : World) (h1 : a' = frD7P5 sb eb zb p6 k u t r v g1 (upd1 gs 7 va)) h2 (h3 : laysD7P5 sb k u t r v fb q0 u0 g0 p0 b0 xv 11 va w') h4 => hQ.out a' w' ⟨va, h1, h2, h3, h4⟩
            have r8 : gs 65 = xv := hR 8 (hdeps ⟨8, .data⟩ (by simp) rfl)
            unfold frD7P5
            go_wp2_with fail
            exact HQ _ (xv) _ (by simp only [frD7P5, upd1, r8, Nat.reduceEqDiff, reduceIte]) trivial rfl hC
        intro L7 g7 w8 hall hR hC
        obtain ⟨R', h1, ⟨h2, h2'⟩, h3, h4⟩ := hC
        rw [hall 5 (by decide), if_pos rfl] at h1
        obtain ⟨p9, hp9, hpl, hpb, hnV, hnR⟩ := h4 (hall 9 (by decide))
        rw [hall 10 (by decide), if_pos rfl] at hpb
        have s7 : g7 7 = xv := hR 11 (by decide)
        have V8 := Lib.hid h1.1
        have F8 := Lib.hid h1.2
        have ST8 := Lib.hid h2
        have NR8 := Lib.hid h2'
        have HP9 := Lib.hid hpb
        have ZL := Lib.hid (lt_of_heap Z3.out)
        have PL9 := Lib.hid hpl
        have hzk := h2.keep (lt_of_heap Z3.out) (by rintro (h | h); exact ZF.out (HS4.out.subV _ h); exact ZF.out (HS4.out.subR _ h))
        have hek := h2.keep (lt_of_heap E3.out) (by rintro (h | h); exact EF.out (HS4.out.subV _ h); exact EF.out (HS4.out.subR _ h))
        have Z8 := Lib.hid (hzk.1.trans Z3.out)
        have E8 := Lib.hid (hek.1.trans E3.out)
        have hbs := h2.keep HS4.out.cells.2.2 (by rintro (h | h); exact HS4.out.sb_.2.1 h; exact HS4.out.sb_.2.2 h)
        have T8 := Lib.hid ((HS4.out.tab.same hbs.1 (fun b hb => (h2.keep (HS4.out.lt _ (HS4.out.tm_ b hb).1) (by rintro (h | h); exact (HS4.out.tm_ b hb).2.1 h; exact (HS4.out.tm_ b hb).2.2 h)).1)).mono (by omega : n ≤ n + 2))
        clear h1 h2 h2' h3 h4 hpl hpb hnV hnR hall hR hzk hek hbs E3 Z3
        unfold frD7P5
        rw [hp9, s7]
        clear hp9 s7
        obtain ⟨y0, y1, y2, y3, y4⟩ := rec_cells (r := ⟨0, ⟨#[]⟩, 0, ⟨#[]⟩, ⟨#[]⟩⟩) Z8.out
        dsimp only at y0 y1 y2 y3 y4
        have lz := lt_of_heap Z8.out
        have fz := free_of_heap Z8.out
        by_cases hx0 : tellF S.has S.L ⟨k, u, t, r, v⟩ = 0
        · obtain rfl : Value.nilIface = xv := by rw [← HXV.out, if_pos hx0]
          have hright := (tellF_right hx0).1
          have AP8 := fun W h => AP.out W S.T (n + 2) (by omega) h
          rw [hright, if_pos rfl, show applyT okV ⟨k, u, t, r, v⟩ S.T = stepT ⟨k, u, t, r, v⟩ S.T by unfold applyT; rw [if_pos hright]] at AP8
          have HX0 := Lib.hid hx0
          clear hx0 hright AP TL2
          unfold evV at AP8
          dsimp only at AP8
          have AP8 := Lib.hid AP8
          obtain ⟨c0, c1, c2, c3, c4⟩ := ev5 (e := ⟨k, u, t, r, v⟩) E8.out
          dsimp only at c0 c1 c2 c3 c4
          have le := lt_of_heap E8.out
          go_wp2_with fail
          refine wp_region_tail 4 (by kernel_rfl) (by kernel_rfl) ?_
          simp only [List.take_succ_cons, List.take_zero, List.drop_succ_cons, List.drop_zero]
          repeat (go_big_quiet_step (fail))
          refine wpQuiet_nil ?_
          rintro _ ⟨x, rfl⟩
          have HX8 := Lib.hid (ext_trans (ext_refl w8) ⟨x, rfl⟩)
          generalize ext w8 x = wx at HX8 ⊢
          clear c0 c1 c2 c3 c4 le y0 y1 y2 y3 y4 lz fz
          have AP8 := AP8.out wx (T8.out.ext HX8.out)
          go_wp2_with fail
          refine AP8.mono ?_
          rintro _ w10 ⟨rfl, mb', t1, t2, t3, kk⟩
          have hkx := ((kept2.refl w8 sb tm).ext HX8.out).trans kk (fun b hb => .inl hb)
          have htl : ∀ b, tm = some b → b < W2.heap.size := fun b hb => HS4.out.lt _ (HS4.out.tm_ b hb).1
          have hsl := HS4.out.cells.2.2
          have HP10 := Lib.hid ((hkx.block p9 (lt_of_heap HP9.out) (fun e => by have := PL9.out; omega) (fun e => by have := htl p9 e.symm; have := PL9.out; omega)).trans HP9.out)
          have Z10 := Lib.hid ((hkx.block zb (lt_of_heap Z8.out) (fun e => ZF.out (e ▸ HS4.out.sb_.1)) (fun e => ZF.out (HS4.out.tm_ zb e.symm).1)).trans Z8.out)
          have TLD := Lib.hid (HS4.out.told ST8.out NR8.out V8.out F8.out t1 t2 (fun e b hb => Nat.le_trans (ext_iff.1 HX8.out).size (t3 e b hb)) hkx)
          clear t1 t2 t3 kk hkx htl hsl AP8 T8 HX8 HP9 Z8 E8
          obtain ⟨z0, z1, z2, z3, z4⟩ := rec_cells (r := ⟨q0, u0, g0, p0, b0⟩) HP10.out
          dsimp only at z0 z1 z2 z3 z4
          have lp := lt_of_heap HP10.out
          obtain ⟨y0, y1, y2, y3, y4⟩ := rec_cells (r := ⟨0, ⟨#[]⟩, 0, ⟨#[]⟩, ⟨#[]⟩⟩) Z10.out
          dsimp only at y0 y1 y2 y3 y4
          have lz := lt_of_heap Z10.out
          have fz := free_of_heap Z10.out
          have SR := Lib.hid (setRec5 Z10.out (.int .i64 q0) (.string u0) (.int .i64 g0) (.string p0) (.string b0))
          go_wp2_with fail
          generalize (((((w10.setCell ⟨zb, 0, none⟩ (.int .i64 q0)).setCell ⟨zb, 1, none⟩ (.string u0)).setCell ⟨zb, 2, none⟩ (.int .i64 g0)).setCell ⟨zb, 3, none⟩ (.string p0)).setCell ⟨zb, 4, none⟩ (.string b0)) = w9 at SR ⊢
          obtain ⟨SR1, SR2⟩ := SR.out
          have hX : X = 0 := HXT.out.trans HX0.out
          obtain ⟨F', hsr, hst⟩ := TLD.out
          rw [← HM2.out, ← HH2.out, ← HL2.out, if_pos HX0.out, if_pos HX0.out, if_pos HX0.out] at hsr
          have hzF : ¬ F' zb := fun h => (hst.sub _ h).elim (fun h => ZF.out h) (fun h => by have := ZL.out; omega)
          have hRR := HRR.out
          rw [if_pos HX0.out] at hRR
          exact ret_cells rfl rfl SR1 Tryz.underlying108 rfl (by kernel_rfl) rfl rfl (HP.out _ _ ⟨by rw [hX, if_pos rfl, if_pos rfl, hRR]; rfl, F', by rw [doSF_yes (by rw [HX.out]; exact hX)]; exact hsr.same (fun i hi => SR2.block i (hsr.lt i hi) (fun e => by injection e with e; subst e; exact hzF hi)) SR2.size, (KS2.out.trans hst).put SR2 (.inr (by omega))⟩)
        · obtain rfl : errV (tellF S.has S.L ⟨k, u, t, r, v⟩) = xv := by rw [← HXV.out, if_neg hx0]
          have hX : X ≠ 0 := by rw [HXT.out]; exact hx0
          have SR := Lib.hid (setRec5 Z8.out (.int .i64 0) (.string ⟨#[]⟩) (.int .i64 0) (.string ⟨#[]⟩) (.string ⟨#[]⟩))
          have HM3 := Lib.hid (HM2.out.symm.trans (if_neg hx0))
          have HH3 := Lib.hid (HH2.out.symm.trans (if_neg hx0))
          have HL3 := Lib.hid (HL2.out.symm.trans (if_neg hx0))
          have HXT := Lib.hid HXT.out
          clear hx0 AP TL2
          generalize tellF S.has S.L ⟨k, u, t, r, v⟩ = x8 at HXT ⊢
          have HNE := Lib.hid hX
          clear hX
          go_wp2_with fail
          generalize (((((w8.setCell ⟨zb, 0, none⟩ (.int .i64 0)).setCell ⟨zb, 1, none⟩ (.string ⟨#[]⟩)).setCell ⟨zb, 2, none⟩ (.int .i64 0)).setCell ⟨zb, 3, none⟩ (.string ⟨#[]⟩)).setCell ⟨zb, 4, none⟩ (.string ⟨#[]⟩)) = w9 at SR ⊢
          obtain ⟨SR1, SR2⟩ := SR.out
          have V9 := V8.out
          have F9 := F8.out
          rw [HM3.out, HH3.out] at V9
          rw [HL3.out] at F9
          obtain ⟨F', hsr, hst⟩ := HS4.out.refused ST8.out NR8.out V9 F9
          have hzF : ¬ F' zb := fun h => (hst.sub _ h).elim (fun h => ZF.out h) (fun h => by have := ZL.out; omega)
          exact ret_cells rfl rfl SR1 Tryz.underlying108 rfl (by kernel_rfl) rfl rfl (HP.out _ _ ⟨by rw [if_neg HNE.out, if_neg HNE.out, HXT.out]; rfl, F', by rw [doSF_no (by rw [HX.out]; exact HNE.out)]; exact hsr.same (fun i hi => SR2.block i (hsr.lt i hi) (fun e => by injection e with e; subst e; exact hzF hi)) SR2.size, (KS2.out.trans hst).put SR2 (.inr (by omega))⟩)
end Go.Proofs.YtnkmckdefiblhaaGreatDoor
