/- (*table.Table).Apply (the walk), for a table in whatever struct. -/
import Derived.Test.YtnkmckdefiblhaaGreatDoorProg
import Derived.Test.YtnkmckdefiblhaaGreatDoorG15
import Derived.Test.YtnkmckdefiblhaaGreatDoorG12
namespace Go.Proofs.YtnkmckdefiblhaaGreatDoor
open Go.RowKit

/-- What was there has not turned, but a table and its map. -/
structure kept2 (w w' : World) (tb : Nat) (mb : Option Nat) : Prop where
  os : w'.os = w.os
  tape : w'.tape = w.tape
  output : w'.output = w.output
  size : w.heap.size ≤ w'.heap.size
  block : ∀ i, i < w.heap.size → i ≠ tb → some i ≠ mb → w'.heap[i]? = w.heap[i]?
theorem kept2.refl (w : World) (tb : Nat) (mb : Option Nat) : kept2 w w tb mb := ⟨rfl, rfl, rfl, Nat.le_refl _, fun _ _ _ _ => rfl⟩
theorem kept2.grown {w w1 w2 : World} {tb : Nat} {mb row : Option Nat} (h : kept2 w w1 tb mb) (g : w1.grownBy w2 row) (hr : ∀ j, row = some j → j = tb ∨ some j = mb ∨ w.heap.size ≤ j) : kept2 w w2 tb mb :=
  ⟨g.os.trans h.os, g.tape.trans h.tape, g.output.trans h.output, Nat.le_trans h.size g.size, fun i hi h1 h2 => (g.block i (Nat.lt_of_lt_of_le hi h.size) (fun e => by
    rcases hr i e.symm with h3 | h3 | h3
    · exact h1 h3
    · exact h2 h3
    · omega)).trans (h.block i hi h1 h2)⟩
theorem kept2.ext {w w1 w2 : World} {tb : Nat} {mb : Option Nat} (h : kept2 w w1 tb mb) (hx : ∃ x, w2 = ext w1 x) : kept2 w w2 tb mb :=
  h.grown (grown_below (ext_iff.1 hx) none) (fun _ e => by cases e)
theorem kept2.trans {w w1 w2 : World} {tb : Nat} {mb mb' : Option Nat} (h : kept2 w w1 tb mb) (g : kept2 w1 w2 tb mb') (hb : ∀ b, mb' = some b → mb = some b ∨ w.heap.size ≤ b) : kept2 w w2 tb mb :=
  ⟨g.os.trans h.os, g.tape.trans h.tape, g.output.trans h.output, Nat.le_trans h.size g.size, fun i hi h1 h2 => (g.block i (Nat.lt_of_lt_of_le hi h.size) h1 (fun e => by
    rcases hb i e.symm with h3 | h3
    · exact h2 h3.symm
    · omega)).trans (h.block i hi h1 h2)⟩
/-- A struct with a place for a table. -/
structure Hole where
  L : List Value
  R : List Value
  ty : TypeId
abbrev Hole.fill (H : Hole) (mb : Option Nat) : Obj := .cells (H.L ++ .map mb :: H.R).toArray H.ty (0, 0)
/-- A table that stands alone. -/
abbrev H0 : Hole := ⟨[], [], 70⟩
theorem Hole.cell {H : Hole} {w : World} {tb : Nat} {mb : Option Nat} {o : Nat} (h : w.heap[tb]? = some (H.fill mb)) (ho : o = H.L.length) : w.cell? ⟨tb, o, none⟩ = some (.map mb) := by
  rw [cell_in, h]
  subst ho
  simp [cellIn]
theorem Hole.set {H : Hole} {w : World} {tb : Nat} {mb : Option Nat} {o : Nat} (h : w.heap[tb]? = some (H.fill mb)) (ho : o = H.L.length) (mb' : Option Nat) : (w.setCell ⟨tb, o, none⟩ (.map mb')).heap[tb]? = some (H.fill mb') := by
  have := heap_setCell (i := o) h (.map mb')
  rw [this]
  subst ho
  simp
/-- A table in memory. -/
structure tabAt (w : World) (tb : Nat) (H : Hole) (mb : Option Nat) (n : Nat) (T : List Cell) : Prop where
  blk : w.heap[tb]? = some (H.fill mb)
  nil : mb = none → T = []
  map : ∀ b, mb = some b → mapAt w b n T
theorem tabAt.mono {w : World} {tb : Nat} {H : Hole} {mb : Option Nat} {n n' : Nat} {T : List Cell} (h : tabAt w tb H mb n T) (hn : n ≤ n') : tabAt w tb H mb n' T := ⟨h.blk, h.nil, fun b hb => (h.map b hb).mono hn⟩
theorem tabAt.kept {w w' : World} {tb : Nat} {H : Hole} {mb row : Option Nat} {n : Nat} {T : List Cell} (h : tabAt w tb H mb n T) (g : w.grownBy w' row) (h1 : some tb ≠ row) (h2 : ∀ b, mb = some b → some b ≠ row) : tabAt w' tb H mb n T :=
  ⟨(g.block tb (lt_of_heap h.blk) h1).trans h.blk, h.nil, fun b hb => (h.map b hb).kept g (h2 b hb)⟩
theorem tabAt.ext {w w' : World} {tb : Nat} {H : Hole} {mb : Option Nat} {n : Nat} {T : List Cell} (h : tabAt w tb H mb n T) (hx : ∃ x, w' = ext w x) : tabAt w' tb H mb n T :=
  h.kept (grown_below (ext_iff.1 hx) none) (by simp) (fun _ _ => by simp)
theorem tabAt.once {w : World} {tb : Nat} {H : Hole} {mb : Option Nat} {n : Nat} {T : List Cell} (h : tabAt w tb H mb n T) : Once T := by
  cases mb with
  | none => rw [h.nil rfl]; exact List.Pairwise.nil
  | some b => exact (h.map b rfl).once
theorem tabAt.ne {w : World} {tb b n : Nat} {H : Hole} {T : List Cell} (h : tabAt w tb H (some b) n T) : b ≠ tb := by
  intro e; subst e
  obtain ⟨es, ck, hb⟩ := (h.map b rfl).block
  have := h.blk
  rw [hb] at this; cases this
/-- What an Apply leaves. -/
def Applied (w w' : World) (tb : Nat) (H : Hole) (mb : Option Nat) (n : Nat) (T : List Cell) : Prop :=
  ∃ mb', tabAt w' tb H mb' n T ∧ (∀ b, mb = some b → mb' = some b) ∧ (mb = none → ∀ b, mb' = some b → w.heap.size ≤ b) ∧ kept2 w w' tb mb
theorem tab_made {w : World} {tb n o : Nat} {H : Hole} (h : w.heap[tb]? = some (H.fill none)) (ho : o = H.L.length) : tabAt ((w.setCell ⟨tb, o, none⟩ (.map (some w.heap.size))).alloc (.map #[] 0)) tb H (some w.heap.size) n [] := by
  refine ⟨(heap_alloc_old _ _ (by simp; exact lt_of_heap h)).trans (Hole.set h ho _), (fun e => by cases e), fun b hb => ?_⟩
  cases hb
  have := mapAt.made (w.setCell ⟨tb, o, none⟩ (.map (some w.heap.size)))
  rw [show (w.setCell ⟨tb, o, none⟩ (.map (some w.heap.size))).heap.size = w.heap.size by simp] at this
  exact this.mono (Nat.zero_le _)
theorem tabAt.update {w w' : World} {tb b n n' : Nat} {H : Hole} {T T' : List Cell} (h : tabAt w tb H (some b) n T) (g : w.grownBy w' (some b)) (m : mapAt w' b n' T') : tabAt w' tb H (some b) n' T' :=
  ⟨(g.block tb (lt_of_heap h.blk) (by intro e; injection e with e; exact h.ne e.symm)).trans h.blk, (fun e => by cases e), fun b' hb => by cases hb; exact m⟩
theorem two_cells {w : World} {b : Nat} {v0 v1 : Value} {t : TypeId} {f : Nat × Nat} (h : w.heap[b]? = some (.cells #[v0, v1] t f)) : w.cell? ⟨b, 0, none⟩ = some v0 ∧ w.cell? ⟨b, 1, none⟩ = some v1 := by
  refine ⟨?_, ?_⟩ <;> (rw [cell_in, h]; rfl)
theorem iter_ne {w : World} {b r n : Nat} {T : List Cell} {left : Lit → Bool} {cnt : Nat} {V : Array Value} {t : TypeId} {f : Nat × Nat} (h : rangeAt w b r n T left cnt) (hb : w.heap[r]? = some (.cells V t f)) : False := by
  obtain ⟨es, ⟨_, _, _, _, _, _, _, _, _, hr, _⟩, _⟩ := h.own
  rw [hb] at hr; cases hr
theorem map_ne {w : World} {b n : Nat} {T : List Cell} {V : Array Value} {t : TypeId} {f : Nat × Nat} (h : mapAt w b n T) (hb : w.heap[b]? = some (.cells V t f)) : False := by
  obtain ⟨es, ck, hr⟩ := h.block
  rw [hb] at hr; cases hr
theorem fieldC (a b c d : ByteArray) (w : World) : (Instr.field 152 (.agg #[.string a, .string b, .string c, .string d]) 2).run Tryz.prog w = .ok (.string c) w := by kernel_rfl
theorem eqMapN (w : World) : (binOp .eql 68 (.map none) (.map none)).run Tryz.prog w = .ok (.bool true) w := by kernel_rfl
theorem eqMapS (b : Nat) (w : World) : (binOp .eql 68 (.map (some b)) (.map none)).run Tryz.prog w = .ok (.bool false) w := by kernel_rfl
set_option maxRecDepth 100000 in
set_option maxHeartbeats 4000000 in
theorem apply_any (e : Ev) (w : World) (tb o : Nat) (H : Hole) (ho : o = H.L.length) (mb : Option Nat) (n : Nat) (T : List Cell) (h : tabAt w tb H mb n T) (hn : n ≤ 1048576) (hz : e.subject.size ≤ 1048576 ∧ e.table.size ≤ 1048576 ∧ e.row.size ≤ 1048576) :
    Calls Tryz.prog 97 #[.pointer (some ⟨tb, o, none⟩), .agg (evV e)] w fun x w' => x = .returned (if rightE okV e = true then .nilIface else errV 1) ∧ Applied w w' tb H mb (n + 1) (applyT okV e T) := by
  have RT := fun w => right_any e w hz
  have HA : Hid (applyT okV e T = if rightE okV e = true then stepT e T else T) := Lib.hid rfl
  have HK := Lib.hid (fun h => kind_cases (ok := okV) (e := e) h)
  have HT := Lib.hid h
  have htb := lt_of_heap h.blk
  have hsz : Hid (e.table.size ≤ maxLen ∧ e.row.size ≤ maxLen) := Lib.hid (by unfold maxLen; omega)
  have hE : Hid (∃ e', e' = e) := Lib.hid ⟨_, rfl⟩
  have hoH := Lib.hid ho
  clear ho
  clear h
  generalize rightE okV e = ok at RT HA HK ⊢
  generalize applyT okV e T = T' at HA
  have HS : Hid (stepT e T = if e.kind = 1 then putT (cellE e) T else if e.kind = 2 then (if txt ((findT (ek e) T).getD zeroC).subject = txt e.subject then delT (ek e) T else T) else goneT (txt e.subject) T) := Lib.hid rfl
  generalize stepT e T = T1 at HA HS
  obtain ⟨k, s, t, r, v⟩ := e
  unfold evV at RT ⊢
  unfold ek cellE at HS
  dsimp only at RT HK HS hsz hz ⊢
  go_enter Tryz.func97, Tryz.ntmps97
  go_wp2_with fail
  have H0 := Lib.hid (heap_alloc_at w (.cells #[.int .i64 k, .string s, .string t, .string r, .string v] 155))
  have T0 := Lib.hid (HT.out.kept (World.grownBy_alloc w (.cells #[.int .i64 k, .string s, .string t, .string r, .string v] 155) none) (by simp) (fun _ _ => by simp))
  have K0 := Lib.hid ((kept2.refl w tb mb).grown (World.grownBy_alloc w (.cells #[.int .i64 k, .string s, .string t, .string r, .string v] 155) none) (fun _ e => by cases e))
  generalize hwe : w.heap.size = eb at H0
  have hwb : w.heap.size ≤ eb := Nat.le_of_eq hwe
  generalize w.alloc (.cells #[.int .i64 k, .string s, .string t, .string r, .string v] 155) = w0 at H0 T0 K0 ⊢
  refine (RT _).mono ?_
  rintro _ w1 ⟨rfl, hx⟩
  have H1 := Lib.hid (((ext_iff.1 hx).block _ (lt_of_heap H0.out)).trans H0.out)
  have T1' := Lib.hid (T0.out.ext hx)
  have K1 := Lib.hid (K0.out.ext hx)
  clear hx H0 T0 K0 RT HT
  clear hwe
  cases ok with
  | false =>
    go_wp2_with fail
    go_ret
    exact ⟨rfl, mb, by rw [HA.out]; exact T1'.out.mono (Nat.le_succ n), fun _ h => h, (fun h b hb => by rw [h] at hb; cases hb), K1.out⟩
  | true =>
    rw [if_pos rfl] at HA
    obtain ⟨c0, c1, c2, c3, c4⟩ := ev_cells H1.out
    have ct := Hole.cell T1'.out.blk hoH.out
    have lt1 := lt_of_heap T1'.out.blk
    have ff := free_of_heap T1'.out.blk
    have HB5 := Lib.hid K1.out.size
    cases mb with
    | none =>
      have hmm := @run_makeMap Tryz.prog
      have hem := eqMapN
      obtain rfl := T1'.out.nil rfl
      have sA : ((w1.setCell ⟨tb, o, none⟩ (.map (some w1.heap.size))).alloc (.map #[] 0)).heap.size = w1.heap.size + 1 := by simp
      have gA : w1.grownBy ((w1.setCell ⟨tb, o, none⟩ (.map (some w1.heap.size))).alloc (.map #[] 0)) (some tb) := (grown_setCell w1 tb o _).trans (World.grownBy_alloc _ _ _)
      have EA := Lib.hid ((gA.block eb (lt_of_heap H1.out) (by intro e; injection e with e; omega)).trans H1.out)
      have TA := Lib.hid (tab_made (n := n) T1'.out.blk hoH.out)
      have KA := Lib.hid (K1.out.grown gA (fun j e => by cases e; exact .inl rfl))
      clear gA
      have EB := Lib.hid ((heap_alloc_old ((w1.setCell ⟨tb, o, none⟩ (.map (some w1.heap.size))).alloc (.map #[] 0)) (.cells #[.string t, .string r] 197) (lt_of_heap EA.out)).trans EA.out)
      have TB := Lib.hid (TA.out.kept (World.grownBy_alloc ((w1.setCell ⟨tb, o, none⟩ (.map (some w1.heap.size))).alloc (.map #[] 0)) (.cells #[.string t, .string r] 197) none) (by simp) (fun _ _ => by simp))
      have KB := Lib.hid (KA.out.grown (World.grownBy_alloc ((w1.setCell ⟨tb, o, none⟩ (.map (some w1.heap.size))).alloc (.map #[] 0)) (.cells #[.string t, .string r] 197) none) (fun _ e => by cases e))
      have YB : Hid ((((w1.setCell ⟨tb, o, none⟩ (.map (some w1.heap.size))).alloc (.map #[] 0)).alloc (.cells #[.string t, .string r] 197)).heap[w1.heap.size + 1]? = some (.cells #[.string t, .string r] 197 (0, 0))) := Lib.hid (by rw [← sA]; exact heap_alloc_at ((w1.setCell ⟨tb, o, none⟩ (.map (some w1.heap.size))).alloc (.map #[] 0)) _)
      obtain ⟨a0, a1, a2, a3, a4⟩ := ev_cells EA.out
      obtain ⟨b0, b1, b2, b3, b4⟩ := ev_cells EB.out
      have ct := Hole.cell TB.out.blk hoH.out
      clear H1 T1' K1
      have hb5 : w.heap.size ≤ w1.heap.size := HB5.out
      have FIN : Hid (∀ w', tabAt w' tb H (some w1.heap.size) (n + 1) T' → kept2 w w' tb none → Applied w w' tb H none (n + 1) T') := Lib.hid (fun w' h1 h2 => ⟨_, h1, (fun b h => by cases h), (fun _ b h => by cases h; exact hb5), h2⟩)
      have HR : Hid (∀ j, some w1.heap.size = some j → j = tb ∨ some j = none ∨ w.heap.size ≤ j) := Lib.hid (fun j e => by cases e; exact .inr (.inr hb5))
      rcases HK.out rfl with rfl | rfl | rfl
      · have hT : Hid (T' = putT ⟨t, r, s, v⟩ []) := Lib.hid (HA.out.trans (HS.out.trans (if_pos rfl)))
        clear HA HS
        go_wp2_with fail
        clear c0 c1 c2 c3 c4 a0 a1 a2 a3 a4 b0 b1 b2 b3 b4 ct EA TA KA ff lt1
        generalize (((w1.setCell ⟨tb, o, none⟩ (.map (some w1.heap.size))).alloc (.map #[] 0)).alloc (.cells #[.string t, .string r] 197)) = w6 at EB TB KB YB ⊢
        generalize (w1.heap.size + 1) = kb at YB ⊢
        generalize w1.heap.size = b5 at TB FIN HR ⊢
        obtain ⟨b0, b1, b2, b3, b4⟩ := ev_cells EB.out
        have ct := Hole.cell TB.out.blk hoH.out
        obtain ⟨y0, y1⟩ := two_cells YB.out
        have lw := lt_of_heap TB.out.blk
        have lk := lt_of_heap YB.out
        have le := lt_of_heap EB.out
        refine wp_region_tail 14 (by kernel_rfl) (by kernel_rfl) ?_
        simp only [List.take_succ_cons, List.take_zero, List.drop_succ_cons, List.drop_zero]
        repeat (go_big_quiet_step (fail))
        refine wpQuiet_nil ?_
        rintro _ ⟨x, rfl⟩
        have T7 := Lib.hid (TB.out.ext ⟨x, rfl⟩)
        have K7 := Lib.hid (KB.out.ext ⟨x, rfl⟩)
        generalize ext w6 x = w7 at T7 K7 ⊢
        clear EB TB KB YB b0 b1 b2 b3 b4 ct y0 y1 lw lk le
        refine wpList_put_rows rfl _ _ _ rfl b5 n [] rfl (T7.out.map _ rfl) (by unfold maxLen; omega) ⟨t, r, s, v⟩ hsz.out rfl rfl ?_
        intro w8 M8 g8
        have T8 := Lib.hid (T7.out.update g8 M8)
        have K8 := Lib.hid (K7.out.grown g8 HR.out)
        clear M8 g8 T7 K7
        go_wp2_with fail
        go_ret
        exact ⟨rfl, FIN.out _ (by rw [hT.out]; exact T8.out) K8.out⟩
      · have HS := Lib.hid (HA.out.trans (HS.out.trans ((if_neg (by decide)).trans (if_pos rfl))))
        clear HA
        generalize hc : (findT (txt t, txt r) []).getD zeroC = c at HS
        have hc := Lib.hid hc
        go_wp2_with fail
        clear c0 c1 c2 c3 c4 a0 a1 a2 a3 a4 b0 b1 b2 b3 b4 ct EA TA KA ff lt1
        generalize (((w1.setCell ⟨tb, o, none⟩ (.map (some w1.heap.size))).alloc (.map #[] 0)).alloc (.cells #[.string t, .string r] 197)) = w6 at EB TB KB YB ⊢
        generalize (w1.heap.size + 1) = kb at YB ⊢
        generalize w1.heap.size = b5 at TB FIN HR ⊢
        obtain ⟨b0, b1, b2, b3, b4⟩ := ev_cells EB.out
        have ct := Hole.cell TB.out.blk hoH.out
        obtain ⟨y0, y1⟩ := two_cells YB.out
        have lw := lt_of_heap TB.out.blk
        have lk := lt_of_heap YB.out
        have le := lt_of_heap EB.out
        have hlk : ∀ x, (Instr.lookup 68 (.map (some b5)) (.agg #[.string t, .string r]) false).run Tryz.prog (ext w6 x) = .ok (.agg (cellA ((findT (txt t, txt r) []).getD zeroC))) (ext w6 x) := fun x => ((TB.out.ext ⟨x, rfl⟩).map _ rfl).look hsz.out.1 hsz.out.2
        rw [hc.out] at hlk
        clear hc
        obtain ⟨ca, cb, cs, cv⟩ := c
        unfold cellA at hlk
        dsimp only at hlk HS
        have hfd := fieldC ca cb cs cv
        refine wp_region_ext (by kernel_rfl) (by kernel_rfl) ?_
        repeat (go_big_quiet_step (fail))
        refine wpQuiet_nil ?_
        rintro _ ⟨x, rfl⟩
        have T7 := Lib.hid (TB.out.ext ⟨x, rfl⟩)
        have K7 := Lib.hid (KB.out.ext ⟨x, rfl⟩)
        have Y7 := Lib.hid (((ext_iff.1 ⟨x, rfl⟩ : Below w6.heap.size w6 (ext w6 x)).block _ (lt_of_heap YB.out)).trans YB.out)
        generalize ext w6 x = w7 at T7 K7 Y7 ⊢
        clear EB TB KB YB b0 b1 b2 b3 b4 ct y0 y1 lw lk le hlk
        have hcs : cs.toList = txt cs := ByteArray.toList_eq _
        have hss : s.toList = txt s := ByteArray.toList_eq _
        cases hq : (cs.toList == s.toList) with
        | true =>
          have hT : Hid (T' = delT (txt t, txt r) []) := Lib.hid (HS.out.trans (if_pos (by rw [← hcs, ← hss]; exact eq_of_beq hq)))
          clear HS hcs hss
          go_wp2_with fail
          have ct := Hole.cell T7.out.blk hoH.out
          obtain ⟨y0, y1⟩ := two_cells Y7.out
          have lw := lt_of_heap T7.out.blk
          have lk := lt_of_heap Y7.out
          refine wp_region_tail 5 (by kernel_rfl) (by kernel_rfl) ?_
          simp only [List.take_succ_cons, List.take_zero, List.drop_succ_cons, List.drop_zero]
          repeat (go_big_quiet_step (fail))
          refine wpQuiet_nil ?_
          rintro _ ⟨x2, rfl⟩
          have T8 := Lib.hid (T7.out.ext ⟨x2, rfl⟩)
          have K8 := Lib.hid (K7.out.ext ⟨x2, rfl⟩)
          generalize ext w7 x2 = w8 at T8 K8 ⊢
          clear T7 K7 Y7 ct y0 y1 lw lk
          refine wpList_del_rows rfl _ _ rfl b5 n [] rfl (T8.out.map _ rfl) t r hsz.out.1 hsz.out.2 rfl ?_
          intro w9 M9 g9
          have T9 := Lib.hid ((T8.out.update g9 M9).mono (Nat.le_succ n))
          have K9 := Lib.hid (K8.out.grown g9 HR.out)
          clear M9 g9 T8 K8
          go_wp2_with fail
          go_ret
          exact ⟨rfl, FIN.out _ (by rw [hT.out]; exact T9.out) K9.out⟩
        | false =>
          have hT : Hid (T' = []) := Lib.hid (HS.out.trans (if_neg (by rw [← hcs, ← hss]; intro e; rw [e] at hq; simp at hq)))
          clear HS hcs hss
          go_wp2_with fail
          go_ret
          exact ⟨rfl, FIN.out _ (by rw [hT.out]; exact T7.out.mono (Nat.le_succ n)) K7.out⟩
      · have hT : Hid (T' = goneT (txt s) []) := Lib.hid (HA.out.trans (HS.out.trans ((if_neg (by decide)).trans (if_neg (by decide)))))
        clear HA HS
        go_wp2_with (first | (at_range; refine wpList_range_rows rfl _ rfl w1.heap.size n [] rfl (TB.out.map _ rfl) ?_; intro w7 left cnt RG HL g7 hs7) | go_in)
        go_frame
        clear c0 c1 c2 c3 c4 a0 a1 a2 a3 a4 b0 b1 b2 b3 b4 ct EA TA KA ff lt1
        generalize (((w1.setCell ⟨tb, o, none⟩ (.map (some w1.heap.size))).alloc (.map #[] 0)).alloc (.cells #[.string t, .string r] 197)) = w6 at EB TB KB YB RG g7 hs7 ⊢
        generalize (w1.heap.size + 1) = kb at YB ⊢
        generalize w1.heap.size = b5 at TB FIN HR RG ⊢
        have E7 := Lib.hid ((g7.block eb (lt_of_heap EB.out) (by simp)).trans EB.out)
        have B7 := Lib.hid ((g7.block tb (lt_of_heap TB.out.blk) (by simp)).trans TB.out.blk)
        have K7 := Lib.hid (KB.out.grown g7 (fun _ e => by cases e))
        have hrb : w.heap.size ≤ w6.heap.size := KB.out.size
        have OS := Lib.hid (show Once [] from TB.out.once)
        have SM := Lib.hid (TB.out.map _ rfl).small
        have hne : b5 ≠ tb := TB.out.ne
        generalize w6.heap.size = rb at RG hrb ⊢
        clear EB TB KB YB g7 hs7
        go_loopw [] (fun wr => ∃ left cnt, Hid (rangeAt wr b5 rb n (goneLeft (txt s) [] left) left cnt) ∧ Hid (wr.heap[eb]? = some (.cells #[.int .i64 3, .string s, .string t, .string r, .string v] 155 (0, 0))) ∧ Hid (wr.heap[tb]? = some (H.fill (some b5))) ∧ Hid (kept2 w wr tb none)) (fun wr => wr.rangeLeft b5 rb)
        case atStart => exact ⟨left, cnt, Lib.hid (by rw [goneLeft_start HL]; exact RG), E7, B7, K7⟩
        case round =>
          clear RG HL left cnt E7 B7 K7 w7
          obtain ⟨left, cnt, RG, E7, B7, K7⟩ := hrel
          go_wp2_with (first | (at_next; refine wpList_next_rows rfl _ rfl b5 rb n _ left cnt rfl RG.out ?_ ?_) | go_in)
          · intro _ hl0
            have T8 : Hid (tabAt wr tb H (some b5) n (goneT (txt s) [])) := Lib.hid (by rw [← goneLeft_end (left := left) hl0]; exact ⟨B7.out, (fun e => by cases e), fun b' hb => by cases hb; exact RG.out.map⟩)
            clear RG E7 B7 hl0
            go_wp2_with fail
            go_ret
            exact ⟨rfl, FIN.out _ (by rw [hT.out]; exact T8.out.mono (Nat.le_succ n)) K7.out⟩
          · intro c w8 cnt8 hc hlx RG8 hlt g8 hs8 hen
            have hc0 := (List.mem_filter.1 hc).1
            have SC := Lib.hid (SM.out c hc0)
            have NR := Lib.hid RG.out.ne
            have E8 := Lib.hid ((g8.block eb (lt_of_heap E7.out) (by intro e; injection e with e; subst e; exact iter_ne RG.out E7.out)).trans E7.out)
            have B8 := Lib.hid ((g8.block tb (lt_of_heap B7.out) (by intro e; injection e with e; subst e; exact iter_ne RG.out B7.out)).trans B7.out)
            have K8 := Lib.hid (K7.out.grown g8 (fun j e => by cases e; exact .inr (.inr hrb)))
            have RGo := Lib.hid (goneLeft_other (s := txt s) (left := left) OS.out SM.out hc0)
            have RGd := Lib.hid (goneLeft_drop (s := txt s) (left := left) OS.out SM.out hc0)
            have CNT := Lib.hid (show wr.rangeLeft b5 rb = cnt from RG.out.left_eq)
            have RG8 := Lib.hid RG8
            clear RG E7 B7 K7 hc hlx g8 hs8 hc0
            have HC := Lib.hid (show c = c from rfl)
            obtain ⟨c1, c2, c3, c4⟩ := c
            dsimp only at hen SC RGo RGd RG8
            have hcs : c3.toList = txt c3 := ByteArray.toList_eq _
            have hss : s.toList = txt s := ByteArray.toList_eq _
            have RGo := Lib.hid (fun h : (c3.toList == s.toList) = false => RGo.out (by intro e; rw [hcs, hss, e] at h; simp at h))
            have RGd := Lib.hid (fun h : (c3.toList == s.toList) = true => RGd.out (by have := eq_of_beq h; rw [hcs, hss] at this; exact this))
            clear hcs hss HC
            have KA := Lib.hid (World.grownBy_alloc w8 (.cells #[.string c1, .string c2] 197) none)
            have KC := Lib.hid (KA.out.trans (World.grownBy_alloc _ (.cells #[.string c1, .string c2, .string c3, .string c4] 152) none))
            have Y9 : Hid (((w8.alloc (.cells #[.string c1, .string c2] 197)).alloc (.cells #[.string c1, .string c2, .string c3, .string c4] 152)).heap[w8.heap.size]? = some (.cells #[.string c1, .string c2] 197 (0, 0))) := Lib.hid ((heap_alloc_old _ _ (by simp)).trans (heap_alloc_at _ _))
            have Z9 : Hid (((w8.alloc (.cells #[.string c1, .string c2] 197)).alloc (.cells #[.string c1, .string c2, .string c3, .string c4] 152)).heap[w8.heap.size + 1]? = some (.cells #[.string c1, .string c2, .string c3, .string c4] 152 (0, 0))) := Lib.hid (by
              have h := heap_alloc_at (w8.alloc (.cells #[.string c1, .string c2] 197)) (.cells #[.string c1, .string c2, .string c3, .string c4] 152)
              rw [show (w8.alloc (.cells #[.string c1, .string c2] 197)).heap.size = w8.heap.size + 1 by simp] at h
              exact h)
            have E9 := Lib.hid ((KC.out.block eb (lt_of_heap E8.out) (by simp)).trans E8.out)
            have B9 := Lib.hid ((KC.out.block tb (lt_of_heap B8.out) (by simp)).trans B8.out)
            have R9 := Lib.hid (RG8.out.kept KC.out (by simp) (by simp))
            have K9 := Lib.hid (K8.out.grown KC.out (fun _ e => by cases e))
            obtain ⟨z0, z1, z2, z3⟩ := cell_cells (c := ⟨c1, c2, c3, c4⟩) Z9.out
            obtain ⟨e0, e1, e2, e3, e4⟩ := ev_cells E9.out
            dsimp only at z0 z1 z2 z3
            clear KA KC E8 B8 K8 RG8
            cases hq : (c3.toList == s.toList) with
            | true =>
              have RGd := Lib.hid (RGd.out hq)
              go_wp2_with fail
              clear z0 z1 z2 z3 e0 e1 e2 e3 e4 Z9 RGo hq hen
              generalize (w8.alloc (.cells #[.string c1, .string c2] 197)).alloc (.cells #[.string c1, .string c2, .string c3, .string c4] 152) = w9 at Y9 E9 B9 R9 K9 ⊢
              have ct := Hole.cell B9.out hoH.out
              obtain ⟨y0, y1⟩ := two_cells Y9.out
              have lw := lt_of_heap B9.out
              have lk := lt_of_heap Y9.out
              refine wp_region_tail 5 (by kernel_rfl) (by kernel_rfl) ?_
              simp only [List.take_succ_cons, List.take_zero, List.drop_succ_cons, List.drop_zero]
              repeat (go_big_quiet_step (fail))
              refine wpQuiet_nil ?_
              rintro _ ⟨x2, rfl⟩
              have G10 := Lib.hid (grown_below (ext_iff.1 ⟨x2, rfl⟩ : Below w9.heap.size w9 (ext w9 x2)) none)
              generalize ext w9 x2 = w10 at G10 ⊢
              refine wpList_del_range_rows rfl _ _ rfl b5 rb n _ _ cnt8 rfl (R9.out.kept G10.out (by simp) (by simp)) ⟨c1, c2, c3, c4⟩ SC.out rfl ?_
              intro w11 cnt11 R11 hle g11
              go_frame
              rw [RGd.out, strike_twice] at R11
              have R11 := Lib.hid R11
              have E10 := Lib.hid ((G10.out.block eb (lt_of_heap E9.out) (by simp)).trans E9.out)
              have NE := Lib.hid (fun e : eb = b5 => map_ne (R9.out.kept G10.out (by simp) (by simp)).map (e ▸ E10.out))
              have E11 := Lib.hid ((g11.block eb (lt_of_heap E10.out) (by intro e; injection e with e; exact NE.out e)).trans E10.out)
              have B11 := Lib.hid ((g11.block tb (Nat.lt_of_lt_of_le (lt_of_heap B9.out) G10.out.size) (by intro e; injection e with e; exact hne e.symm)).trans ((G10.out.block tb (lt_of_heap B9.out) (by simp)).trans B9.out))
              have K11 := Lib.hid ((K9.out.grown G10.out (fun _ e => by cases e)).grown g11 HR.out)
              clear g11 E9 B9 K9 Y9 R9 G10 ct y0 y1 lw lk
              go_wp2_with fail
              go_roundw
              case rel =>
      
                exact ⟨strike left ⟨c1, c2, c3, c4⟩, cnt11, R11, E11, B11, K11⟩
              case measure => rw [R11.out.left_eq, CNT.out]; exact Nat.lt_of_le_of_lt hle hlt
            | false =>
              have RGo := Lib.hid (RGo.out hq)
              go_wp2_with fail
              exact ⟨⟨strike left ⟨c1, c2, c3, c4⟩, cnt8, Lib.hid (by rw [RGo.out]; exact R9.out), E9, B9, K9⟩, by rw [R9.out.left_eq, CNT.out]; exact hlt⟩
    | some b =>
      have hem := eqMapS b
      have EA := H1
      have TA := T1'
      have KA := K1
      clear H1 T1' K1
      have EB := Lib.hid ((heap_alloc_old w1 (.cells #[.string t, .string r] 197) (lt_of_heap EA.out)).trans EA.out)
      have TB := Lib.hid (TA.out.kept (World.grownBy_alloc w1 (.cells #[.string t, .string r] 197) none) (by simp) (fun _ _ => by simp))
      have KB := Lib.hid (KA.out.grown (World.grownBy_alloc w1 (.cells #[.string t, .string r] 197) none) (fun _ e => by cases e))
      have YB : Hid ((w1.alloc (.cells #[.string t, .string r] 197)).heap[w1.heap.size]? = some (.cells #[.string t, .string r] 197 (0, 0))) := Lib.hid (by exact heap_alloc_at w1 _)
      obtain ⟨a0, a1, a2, a3, a4⟩ := ev_cells EA.out
      obtain ⟨b0, b1, b2, b3, b4⟩ := ev_cells EB.out
      have ct := Hole.cell TB.out.blk hoH.out
      have FIN : Hid (∀ w', tabAt w' tb H (some b) (n + 1) T' → kept2 w w' tb (some b) → Applied w w' tb H (some b) (n + 1) T') := Lib.hid (fun w' h1 h2 => ⟨_, h1, (fun _ h => h), (fun h => by cases h), h2⟩)
      have HR : Hid (∀ j, some b = some j → j = tb ∨ some j = (some b) ∨ w.heap.size ≤ j) := Lib.hid (fun j e => by cases e; exact .inr (.inl rfl))
      rcases HK.out rfl with rfl | rfl | rfl
      · have hT : Hid (T' = putT ⟨t, r, s, v⟩ T) := Lib.hid (HA.out.trans (HS.out.trans (if_pos rfl)))
        clear HA HS
        go_wp2_with fail
        clear c0 c1 c2 c3 c4 a0 a1 a2 a3 a4 b0 b1 b2 b3 b4 ct EA TA KA ff lt1
        generalize (w1.alloc (.cells #[.string t, .string r] 197)) = w6 at EB TB KB YB ⊢
        generalize w1.heap.size = kb at YB ⊢
        obtain ⟨b0, b1, b2, b3, b4⟩ := ev_cells EB.out
        have ct := Hole.cell TB.out.blk hoH.out
        obtain ⟨y0, y1⟩ := two_cells YB.out
        have lw := lt_of_heap TB.out.blk
        have lk := lt_of_heap YB.out
        have le := lt_of_heap EB.out
        refine wp_region_tail 14 (by kernel_rfl) (by kernel_rfl) ?_
        simp only [List.take_succ_cons, List.take_zero, List.drop_succ_cons, List.drop_zero]
        repeat (go_big_quiet_step (fail))
        refine wpQuiet_nil ?_
        rintro _ ⟨x, rfl⟩
        have T7 := Lib.hid (TB.out.ext ⟨x, rfl⟩)
        have K7 := Lib.hid (KB.out.ext ⟨x, rfl⟩)
        generalize ext w6 x = w7 at T7 K7 ⊢
        clear EB TB KB YB b0 b1 b2 b3 b4 ct y0 y1 lw lk le
        refine wpList_put_rows rfl _ _ _ rfl b n T rfl (T7.out.map _ rfl) (by unfold maxLen; omega) ⟨t, r, s, v⟩ hsz.out rfl rfl ?_
        intro w8 M8 g8
        have T8 := Lib.hid (T7.out.update g8 M8)
        have K8 := Lib.hid (K7.out.grown g8 HR.out)
        clear M8 g8 T7 K7
        go_wp2_with fail
        go_ret
        exact ⟨rfl, FIN.out _ (by rw [hT.out]; exact T8.out) K8.out⟩
      · have HS := Lib.hid (HA.out.trans (HS.out.trans ((if_neg (by decide)).trans (if_pos rfl))))
        clear HA
        generalize hc : (findT (txt t, txt r) T).getD zeroC = c at HS
        have hc := Lib.hid hc
        go_wp2_with fail
        clear c0 c1 c2 c3 c4 a0 a1 a2 a3 a4 b0 b1 b2 b3 b4 ct EA TA KA ff lt1
        generalize (w1.alloc (.cells #[.string t, .string r] 197)) = w6 at EB TB KB YB ⊢
        generalize w1.heap.size = kb at YB ⊢
        obtain ⟨b0, b1, b2, b3, b4⟩ := ev_cells EB.out
        have ct := Hole.cell TB.out.blk hoH.out
        obtain ⟨y0, y1⟩ := two_cells YB.out
        have lw := lt_of_heap TB.out.blk
        have lk := lt_of_heap YB.out
        have le := lt_of_heap EB.out
        have hlk : ∀ x, (Instr.lookup 68 (.map (some b)) (.agg #[.string t, .string r]) false).run Tryz.prog (ext w6 x) = .ok (.agg (cellA ((findT (txt t, txt r) T).getD zeroC))) (ext w6 x) := fun x => ((TB.out.ext ⟨x, rfl⟩).map _ rfl).look hsz.out.1 hsz.out.2
        rw [hc.out] at hlk
        clear hc
        obtain ⟨ca, cb, cs, cv⟩ := c
        unfold cellA at hlk
        dsimp only at hlk HS
        have hfd := fieldC ca cb cs cv
        refine wp_region_ext (by kernel_rfl) (by kernel_rfl) ?_
        repeat (go_big_quiet_step (fail))
        refine wpQuiet_nil ?_
        rintro _ ⟨x, rfl⟩
        have T7 := Lib.hid (TB.out.ext ⟨x, rfl⟩)
        have K7 := Lib.hid (KB.out.ext ⟨x, rfl⟩)
        have Y7 := Lib.hid (((ext_iff.1 ⟨x, rfl⟩ : Below w6.heap.size w6 (ext w6 x)).block _ (lt_of_heap YB.out)).trans YB.out)
        generalize ext w6 x = w7 at T7 K7 Y7 ⊢
        clear EB TB KB YB b0 b1 b2 b3 b4 ct y0 y1 lw lk le hlk
        have hcs : cs.toList = txt cs := ByteArray.toList_eq _
        have hss : s.toList = txt s := ByteArray.toList_eq _
        cases hq : (cs.toList == s.toList) with
        | true =>
          have hT : Hid (T' = delT (txt t, txt r) T) := Lib.hid (HS.out.trans (if_pos (by rw [← hcs, ← hss]; exact eq_of_beq hq)))
          clear HS hcs hss
          go_wp2_with fail
          have ct := Hole.cell T7.out.blk hoH.out
          obtain ⟨y0, y1⟩ := two_cells Y7.out
          have lw := lt_of_heap T7.out.blk
          have lk := lt_of_heap Y7.out
          refine wp_region_tail 5 (by kernel_rfl) (by kernel_rfl) ?_
          simp only [List.take_succ_cons, List.take_zero, List.drop_succ_cons, List.drop_zero]
          repeat (go_big_quiet_step (fail))
          refine wpQuiet_nil ?_
          rintro _ ⟨x2, rfl⟩
          have T8 := Lib.hid (T7.out.ext ⟨x2, rfl⟩)
          have K8 := Lib.hid (K7.out.ext ⟨x2, rfl⟩)
          generalize ext w7 x2 = w8 at T8 K8 ⊢
          clear T7 K7 Y7 ct y0 y1 lw lk
          refine wpList_del_rows rfl _ _ rfl b n T rfl (T8.out.map _ rfl) t r hsz.out.1 hsz.out.2 rfl ?_
          intro w9 M9 g9
          have T9 := Lib.hid ((T8.out.update g9 M9).mono (Nat.le_succ n))
          have K9 := Lib.hid (K8.out.grown g9 HR.out)
          clear M9 g9 T8 K8
          go_wp2_with fail
          go_ret
          exact ⟨rfl, FIN.out _ (by rw [hT.out]; exact T9.out) K9.out⟩
        | false =>
          have hT : Hid (T' = T) := Lib.hid (HS.out.trans (if_neg (by rw [← hcs, ← hss]; intro e; rw [e] at hq; simp at hq)))
          clear HS hcs hss
          go_wp2_with fail
          go_ret
          exact ⟨rfl, FIN.out _ (by rw [hT.out]; exact T7.out.mono (Nat.le_succ n)) K7.out⟩
      · have hT : Hid (T' = goneT (txt s) T) := Lib.hid (HA.out.trans (HS.out.trans ((if_neg (by decide)).trans (if_neg (by decide)))))
        clear HA HS
        go_wp2_with (first | (at_range; refine wpList_range_rows rfl _ rfl b n T rfl (TB.out.map _ rfl) ?_; intro w7 left cnt RG HL g7 hs7) | go_in)
        go_frame
        clear c0 c1 c2 c3 c4 a0 a1 a2 a3 a4 b0 b1 b2 b3 b4 ct EA TA KA ff lt1
        generalize (w1.alloc (.cells #[.string t, .string r] 197)) = w6 at EB TB KB YB RG g7 hs7 ⊢
        generalize w1.heap.size = kb at YB ⊢
        skip
        have E7 := Lib.hid ((g7.block eb (lt_of_heap EB.out) (by simp)).trans EB.out)
        have B7 := Lib.hid ((g7.block tb (lt_of_heap TB.out.blk) (by simp)).trans TB.out.blk)
        have K7 := Lib.hid (KB.out.grown g7 (fun _ e => by cases e))
        have hrb : w.heap.size ≤ w6.heap.size := KB.out.size
        have OS := Lib.hid (show Once T from TB.out.once)
        have SM := Lib.hid (TB.out.map _ rfl).small
        have hne : b ≠ tb := TB.out.ne
        generalize w6.heap.size = rb at RG hrb ⊢
        clear EB TB KB YB g7 hs7
        go_loopw [] (fun wr => ∃ left cnt, Hid (rangeAt wr b rb n (goneLeft (txt s) T left) left cnt) ∧ Hid (wr.heap[eb]? = some (.cells #[.int .i64 3, .string s, .string t, .string r, .string v] 155 (0, 0))) ∧ Hid (wr.heap[tb]? = some (H.fill (some b))) ∧ Hid (kept2 w wr tb (some b))) (fun wr => wr.rangeLeft b rb)
        case atStart => exact ⟨left, cnt, Lib.hid (by rw [goneLeft_start HL]; exact RG), E7, B7, K7⟩
        case round =>
          clear RG HL left cnt E7 B7 K7 w7
          obtain ⟨left, cnt, RG, E7, B7, K7⟩ := hrel
          go_wp2_with (first | (at_next; refine wpList_next_rows rfl _ rfl b rb n _ left cnt rfl RG.out ?_ ?_) | go_in)
          · intro _ hl0
            have T8 : Hid (tabAt wr tb H (some b) n (goneT (txt s) T)) := Lib.hid (by rw [← goneLeft_end (left := left) hl0]; exact ⟨B7.out, (fun e => by cases e), fun b' hb => by cases hb; exact RG.out.map⟩)
            clear RG E7 B7 hl0
            go_wp2_with fail
            go_ret
            exact ⟨rfl, FIN.out _ (by rw [hT.out]; exact T8.out.mono (Nat.le_succ n)) K7.out⟩
          · intro c w8 cnt8 hc hlx RG8 hlt g8 hs8 hen
            have hc0 := (List.mem_filter.1 hc).1
            have SC := Lib.hid (SM.out c hc0)
            have NR := Lib.hid RG.out.ne
            have E8 := Lib.hid ((g8.block eb (lt_of_heap E7.out) (by intro e; injection e with e; subst e; exact iter_ne RG.out E7.out)).trans E7.out)
            have B8 := Lib.hid ((g8.block tb (lt_of_heap B7.out) (by intro e; injection e with e; subst e; exact iter_ne RG.out B7.out)).trans B7.out)
            have K8 := Lib.hid (K7.out.grown g8 (fun j e => by cases e; exact .inr (.inr hrb)))
            have RGo := Lib.hid (goneLeft_other (s := txt s) (left := left) OS.out SM.out hc0)
            have RGd := Lib.hid (goneLeft_drop (s := txt s) (left := left) OS.out SM.out hc0)
            have CNT := Lib.hid (show wr.rangeLeft b rb = cnt from RG.out.left_eq)
            have RG8 := Lib.hid RG8
            clear RG E7 B7 K7 hc hlx g8 hs8 hc0
            have HC := Lib.hid (show c = c from rfl)
            obtain ⟨c1, c2, c3, c4⟩ := c
            dsimp only at hen SC RGo RGd RG8
            have hcs : c3.toList = txt c3 := ByteArray.toList_eq _
            have hss : s.toList = txt s := ByteArray.toList_eq _
            have RGo := Lib.hid (fun h : (c3.toList == s.toList) = false => RGo.out (by intro e; rw [hcs, hss, e] at h; simp at h))
            have RGd := Lib.hid (fun h : (c3.toList == s.toList) = true => RGd.out (by have := eq_of_beq h; rw [hcs, hss] at this; exact this))
            clear hcs hss HC
            have KA := Lib.hid (World.grownBy_alloc w8 (.cells #[.string c1, .string c2] 197) none)
            have KC := Lib.hid (KA.out.trans (World.grownBy_alloc _ (.cells #[.string c1, .string c2, .string c3, .string c4] 152) none))
            have Y9 : Hid (((w8.alloc (.cells #[.string c1, .string c2] 197)).alloc (.cells #[.string c1, .string c2, .string c3, .string c4] 152)).heap[w8.heap.size]? = some (.cells #[.string c1, .string c2] 197 (0, 0))) := Lib.hid ((heap_alloc_old _ _ (by simp)).trans (heap_alloc_at _ _))
            have Z9 : Hid (((w8.alloc (.cells #[.string c1, .string c2] 197)).alloc (.cells #[.string c1, .string c2, .string c3, .string c4] 152)).heap[w8.heap.size + 1]? = some (.cells #[.string c1, .string c2, .string c3, .string c4] 152 (0, 0))) := Lib.hid (by
              have h := heap_alloc_at (w8.alloc (.cells #[.string c1, .string c2] 197)) (.cells #[.string c1, .string c2, .string c3, .string c4] 152)
              rw [show (w8.alloc (.cells #[.string c1, .string c2] 197)).heap.size = w8.heap.size + 1 by simp] at h
              exact h)
            have E9 := Lib.hid ((KC.out.block eb (lt_of_heap E8.out) (by simp)).trans E8.out)
            have B9 := Lib.hid ((KC.out.block tb (lt_of_heap B8.out) (by simp)).trans B8.out)
            have R9 := Lib.hid (RG8.out.kept KC.out (by simp) (by simp))
            have K9 := Lib.hid (K8.out.grown KC.out (fun _ e => by cases e))
            obtain ⟨z0, z1, z2, z3⟩ := cell_cells (c := ⟨c1, c2, c3, c4⟩) Z9.out
            obtain ⟨e0, e1, e2, e3, e4⟩ := ev_cells E9.out
            dsimp only at z0 z1 z2 z3
            clear KA KC E8 B8 K8 RG8
            cases hq : (c3.toList == s.toList) with
            | true =>
              have RGd := Lib.hid (RGd.out hq)
              go_wp2_with fail
              clear z0 z1 z2 z3 e0 e1 e2 e3 e4 Z9 RGo hq hen
              generalize (w8.alloc (.cells #[.string c1, .string c2] 197)).alloc (.cells #[.string c1, .string c2, .string c3, .string c4] 152) = w9 at Y9 E9 B9 R9 K9 ⊢
              have ct := Hole.cell B9.out hoH.out
              obtain ⟨y0, y1⟩ := two_cells Y9.out
              have lw := lt_of_heap B9.out
              have lk := lt_of_heap Y9.out
              refine wp_region_tail 5 (by kernel_rfl) (by kernel_rfl) ?_
              simp only [List.take_succ_cons, List.take_zero, List.drop_succ_cons, List.drop_zero]
              repeat (go_big_quiet_step (fail))
              refine wpQuiet_nil ?_
              rintro _ ⟨x2, rfl⟩
              have G10 := Lib.hid (grown_below (ext_iff.1 ⟨x2, rfl⟩ : Below w9.heap.size w9 (ext w9 x2)) none)
              generalize ext w9 x2 = w10 at G10 ⊢
              refine wpList_del_range_rows rfl _ _ rfl b rb n _ _ cnt8 rfl (R9.out.kept G10.out (by simp) (by simp)) ⟨c1, c2, c3, c4⟩ SC.out rfl ?_
              intro w11 cnt11 R11 hle g11
              go_frame
              rw [RGd.out, strike_twice] at R11
              have R11 := Lib.hid R11
              have E10 := Lib.hid ((G10.out.block eb (lt_of_heap E9.out) (by simp)).trans E9.out)
              have NE := Lib.hid (fun e : eb = b => map_ne (R9.out.kept G10.out (by simp) (by simp)).map (e ▸ E10.out))
              have E11 := Lib.hid ((g11.block eb (lt_of_heap E10.out) (by intro e; injection e with e; exact NE.out e)).trans E10.out)
              have B11 := Lib.hid ((g11.block tb (Nat.lt_of_lt_of_le (lt_of_heap B9.out) G10.out.size) (by intro e; injection e with e; exact hne e.symm)).trans ((G10.out.block tb (lt_of_heap B9.out) (by simp)).trans B9.out))
              have K11 := Lib.hid ((K9.out.grown G10.out (fun _ e => by cases e)).grown g11 HR.out)
              clear g11 E9 B9 K9 Y9 R9 G10 ct y0 y1 lw lk
              go_wp2_with fail
              go_roundw
              case rel =>
      
                exact ⟨strike left ⟨c1, c2, c3, c4⟩, cnt11, R11, E11, B11, K11⟩
              case measure => rw [R11.out.left_eq, CNT.out]; exact Nat.lt_of_le_of_lt hle hlt
            | false =>
              have RGo := Lib.hid (RGo.out hq)
              go_wp2_with fail
              exact ⟨⟨strike left ⟨c1, c2, c3, c4⟩, cnt8, Lib.hid (by rw [RGo.out]; exact R9.out), E9, B9, K9⟩, by rw [R9.out.left_eq, CNT.out]; exact hlt⟩
end Go.Proofs.YtnkmckdefiblhaaGreatDoor
