/- wire.All (the walk: a range over a function, inside the wide fence). -/
import Derived.Test.YtgckpfeeioljeaaGreatDoorProg
import Derived.Test.YtgckpfeeioljeaaGreatDoorG41
namespace Go.Proofs.YtgckpfeeioljeaaGreatDoor
open Go.RowKit Go.Shelf
attribute [local go_sem] Oper.semAt_some

/-- How a round's body is left: off its end; the loop's record and the block for the rounds' deferred calls as they were. -/
def roundEnd (I : World → Prop) (l d : Nat) (A1 : World) : Exit → Act → World → Prop
  | .normal, _, A2 => A2.heap[l]? = A1.heap[l]? ∧ A2.heap[d]? = A1.heap[d]? ∧ I A2
  | .ret, _, _ => False
  | .exit _, _, _ => False
  | .goto _, _, _ => False
  | .panic _, _, _ => False
  | .outgrown, _, _ => False
/-- 'for left, x := range r.all { .. }', whose body never leaves early. -/
theorem wpIn_all {g : Operand} {ps : Array Tmp} {assign body : Code} {Q : Exit → Act → World → Prop} {a : Act} {w : World} (rb : Nat) (s : List UInt8) (hs : s.length ≤ 1048576)
    (hg : a.eval g = .func (.func 50) #[.pointer (some ⟨rb, 0, none⟩)] #[]) (hps : ps.size = 2) (hrd : readerAt w rb ⟨s, false⟩) (hRo : Rounds w)
    (I : List Rec → List UInt8 → World → Prop) (h0 : I [] s w)
    (hI : ∀ acc t A B row, I acc t A → A.grownBy B row → (∀ r, row = some r → r = rb ∨ r = w.heap.size + 1) → I acc t B)
    (hround : ∀ acc t r u A, I acc t A → stepL t = some (r, u) → readerAt A rb ⟨u, false⟩ → Rounds A → w.heap.size + 2 ≤ A.heap.size →
      assign.wpIn (Fence.wide.inRound (w.heap.size + 1)) 1 Tryz.prog (Exit.then (fun a1 A1 => (∃ o, A1 = A.alloc o) ∧ ∀ o, body.wpIn (Fence.wide.inRound (w.heap.size + 1)) 1 Tryz.prog (roundEnd (fun A2 => I (acc ++ [r]) u A2 ∧ readerAt A2 rb ⟨u, false⟩ ∧ Rounds A2) (w.heap.size + 1) w.heap.size (A1.putObj (w.heap.size + 1) o)) a1 (A1.putObj (w.heap.size + 1) o)) (fun _ _ _ => False))
        { tmps := (ps.zip #[.int .i64 (u.length : Nat), .agg (recV r)]).foldl (fun t (p, v) => t.setIfInBounds p v) a.tmps, defers := [] } A)
    (hdone : ∀ acc t A, RunL s acc t → stepL t = none → I acc t A → A.heap[w.heap.size]? = some (.deferred (some [])) → Q .normal { a with defers := { target := .collected w.heap.size, args := #[] } :: a.defers } A) :
    (Code.rangeFunc g ps assign body).wpIn Fence.wide 4 Tryz.prog Q a w := by
  have hrb : rb < w.heap.size := lt_of_heap (show w.heap[rb]? = _ from hrd)
  refine wpIn_rangeFunc ?_
  intro fn hfn
  obtain ⟨rec, hrec⟩ : ∃ rec : LoopState → Option Code → Loop, rec = fun st pe => { state := st, pending := pe, fn, tmps := a.tmps, params := ps, assign, body, defers := w.heap.size } := ⟨_, rfl⟩
  obtain ⟨W1, hW1⟩ : ∃ W1, (w.alloc (.deferred (some []))).alloc (.loop (rec .ready none)) = W1 := ⟨_, rfl⟩
  have hL1 : W1.heap[w.heap.size + 1]? = some (.loop (rec .ready none)) := by
    rw [← hW1]; have := World.alloc_heap_new (w.alloc (.deferred (some []))) (.loop (rec .ready none)); rwa [World.size_alloc] at this
  have hK1 : W1.heap[w.heap.size]? = some (.deferred (some [])) := by
    rw [← hW1]; exact (Below.heap_alloc _ _ _ (by simp)).trans (World.alloc_heap_new w _)
  have hG1 : w.grownBy W1 none := by rw [← hW1]; exact (World.grownBy_alloc w _ none).trans (World.grownBy_alloc _ _ none)
  have hI1 : I [] s W1 := hI _ _ _ _ none h0 hG1 (fun _ h => by cases h)
  have hrd1 : readerAt W1 rb ⟨s, false⟩ := (hG1.block rb hrb (by simp)).trans hrd
  have hR1 : Rounds W1 := Rounds_of hRo (fun k hk => hG1.block k hk (by simp)) hG1.size
  have hs1 : w.heap.size + 2 ≤ W1.heap.size := by rw [← hW1]; simp
  refine ⟨w.heap.size + 1, [{ target := .collected w.heap.size, args := #[] }], W1, { target := .fn (.func 50) #[], args := #[.pointer (some ⟨rb, 0, none⟩), .func (.yield (w.heap.size + 1)) #[] #[]] }, W1, 50,
    #[.pointer (some ⟨rb, 0, none⟩), .func (.yield (w.heap.size + 1)) #[] #[]], W1, ?_, ?_, ?_, ?_, fun h => (by cases h), ?_⟩
  · rw [← hW1, hrec]; exact run_enterLoop_outer _ _ _ _ _
  · simp only [resolve, hg]
    simp [go_sem]
  · intro f' _; trivial
  · simp [invoke, go_sem]
  · refine (CallsIn.more (all_in (w.heap.size + 1) rb s hs (fun acc t A => (I acc t A ∧ w.heap.size + 2 ≤ A.heap.size) ∧ A.heap[w.heap.size + 1]? = some (.loop (rec .ready none)) ∧ A.heap[w.heap.size]? = some (.deferred (some []))) W1 ?_ ?_ hrd1 hR1 ⟨⟨hI1, hs1⟩, hL1, hK1⟩) (by decide)).mono ?_
    · rintro acc t A B ⟨⟨hi, hz⟩, hl, hk⟩ hgr
      refine ⟨⟨hI _ _ _ _ _ hi hgr (fun r h => by injection h with h; exact .inl h.symm), Nat.le_trans hz hgr.size⟩, (hgr.block _ (lt_of_heap hl) (by intro h; injection h with h; omega)).trans hl, (hgr.block _ (lt_of_heap hk) (by intro h; injection h with h; omega)).trans hk⟩
    · rintro acc t r u A ⟨⟨hi, hz⟩, hl, hk⟩ hst hr hRd
      have hy := run_yield (P := Tryz.prog) (args := #[.int .i64 (u.length : Nat), .agg (recV r)]) hl (by rw [hrec]; exact hps.symm)
      rw [hrec] at hy
      refine ⟨fn, _, assign, body, hy, roundIn_of_wpIn hfn ?_⟩
      refine wpIn_mono (hround acc t r u A hi hst hr hRd hz) ?_
      rintro e a1 A1 hp
      cases e with
      | normal =>
        obtain ⟨⟨o, rfl⟩, hb⟩ := hp
        have hl1 : (A.alloc o).heap[w.heap.size + 1]? = some (.loop (rec .ready none)) := (Below.heap_alloc _ _ _ (lt_of_heap hl)).trans hl
        have hk1 : (A.alloc o).heap[w.heap.size]? = some (.deferred (some [])) := (Below.heap_alloc _ _ _ (lt_of_heap hk)).trans hk
        refine ⟨_, run_beginRound hl1 (by rw [hrec]), wpIn_mono (hb _) ?_⟩
        rintro e2 a2 A2 hp2
        cases e2 with
        | normal =>
          obtain ⟨h1, h2, hi2, hr2, hR2⟩ := hp2
          rw [World.putObj_heap_same (lt_of_heap hl1)] at h1
          rw [World.putObj_heap_other (by omega), hk1] at h2
          refine ⟨_, _, run_endRound none h1, rfl, ?_, ?_, ?_⟩
          · have hgp : A2.grownBy (A2.putObj (w.heap.size + 1) (.loop (rec .ready none))) (some (w.heap.size + 1)) := grownBy_putObj' A2 _ _
            rw [hrec] at hgp ⊢
            refine ⟨⟨hI _ _ _ _ _ hi2 hgp (fun r h => by injection h with h; exact .inr h.symm), Nat.le_trans ?_ hgp.size⟩, World.putObj_heap_same (lt_of_heap h1), (World.putObj_heap_other (by omega)).trans h2⟩
            have := lt_of_heap h1
            omega
          · exact (World.putObj_heap_other (by omega)).trans hr2
          · exact Rounds_grown hR2 (grownBy_putObj' A2 _ _) (by have := hRo.1; omega)
        | ret => exact hp2.elim
        | exit id => exact hp2.elim
        | goto t => exact hp2.elim
        | panic ch => exact hp2.elim
        | outgrown => exact hp2.elim
      | ret => exact hp.elim
      | exit id => exact hp.elim
      | goto t => exact hp.elim
      | panic ch => exact hp.elim
      | outgrown => exact hp.elim
    · rintro e W2 ⟨⟨v, rfl⟩, acc, t, hrun, hst, ⟨hi, hz⟩, hl, hk⟩
      have he := run_endLoop (P := Tryz.prog) hl (by rw [hrec]; simp)
      rw [hrec] at he
      refine ⟨none, _, he, ?_⟩
      refine hdone acc t _ hrun hst (hI _ _ _ _ _ hi (grownBy_putObj' W2 _ _) (fun r h => by injection h with h; exact .inr h.symm)) ((World.putObj_heap_other (by omega)).trans hk)
/-- What lies in the caller's blocks between two rounds: its text, what has been read, how many bytes that took. -/
def IAll (s : ByteArray) (w0 : World) (k : Nat) (acc : List Rec) (t : List UInt8) (A : World) : Prop :=
  A.heap[k]? = some (.cells #[.string s] 9 (0, 0)) ∧ (∃ v, A.heap[k + 1]? = some (.cells #[v] 31 (0, 0)) ∧ ownsRl A (k + 6) v acc) ∧
  A.heap[k + 2]? = some (.cells #[.int .i64 ((s.size - t.length : Nat) : Int)] 3 (0, 0)) ∧ (acc.length ≤ s.size - t.length ∧ t.length ≤ s.size) ∧ Below k w0 A ∧ k + 4 ≤ A.heap.size
theorem IAll.grow {s : ByteArray} {w0 : World} {k : Nat} {acc : List Rec} {t : List UInt8} {A B : World} {row : Option Nat} (h : IAll s w0 k acc t A) (g : A.grownBy B row) (hr : ∀ r, row = some r → r = k + 3 ∨ r = k + 4 + 1) : IAll s w0 k acc t B := by
  obtain ⟨h1, ⟨v, h2, h3⟩, h4, h5, h6, h7⟩ := h
  have hn : ∀ j, (j ≠ k + 3 ∧ j ≠ k + 5) → some j ≠ row := fun j hj e => by
    have := hr j e.symm
    omega
  refine ⟨(g.block _ (lt_of_heap h1) (hn _ (by omega))).trans h1, ⟨v, (g.block _ (lt_of_heap h2) (hn _ (by omega))).trans h2, h3.kept g (fun j hj => hn j (by have := (h3.base hj).1; omega))⟩, (g.block _ (lt_of_heap h4) (hn _ (by omega))).trans h4, h5, ?_, Nat.le_trans h7 g.size⟩
  exact h6.grown g (by omega) (fun j hj => by have := hr j hj; omega)
theorem cellOne {w : World} {b : Nat} {v : Value} {t : TypeId} {f : Nat × Nat} (h : w.heap[b]? = some (.cells #[v] t f)) : w.cell? ⟨b, 0, none⟩ = some v := by rw [cell_in, h]; rfl
theorem ownsRl_low {w : World} {base b : Nat} {v : Value} {l : List Rec} (h : ownsRl w base v l) (hb : b ≤ base) : ownsRl w b v l := by
  obtain ⟨h1, h2 | ⟨g, cap, cur, hv, hb', h3⟩⟩ := h
  · exact ⟨h1, .inl h2⟩
  · exact ⟨h1, .inr ⟨g, cap, cur, hv, Nat.le_trans hb hb', h3⟩⟩
set_option maxRecDepth 100000 in
set_option maxHeartbeats 4000000 in
theorem wall_any (s : ByteArray) (w : World) (hs : s.size ≤ 1048576) (hR : Rounds w) :
    Calls Tryz.prog 14 #[.string s] w (AllPost s w) := by
  have hmix : Tryz.prog.follows .mixedOrders = true := by kernel_rfl
  have RO := Lib.hid hR
  clear hR
  refine (callsIn_wide (n := 4)).1 ?_
  refine callsIn_of_wp_marks Tryz.func14 rfl trivial ?_ rfl
  simp only [Tryz.ntmps14, List.size_toArray, List.length_cons, List.length_nil, Nat.reduceAdd, Nat.reduceSub, Array.replicate_succ, Array.replicate_zero, List.push_toArray, List.append_toArray, List.nil_append, List.cons_append]
  gi_wp2
  have H0 := heap_alloc_at w (.cells #[.string s] 9)
  have e1 : (w.alloc (.cells #[.string s] 9)).heap.size = w.heap.size + 1 := by simp
  have g1 := World.grownBy_alloc w (.cells #[.string s] 9) none
  generalize w.alloc (.cells #[.string s] 9) = wa at H0 e1 g1 ⊢
  have H1 := heap_alloc_at wa (.cells #[.slice none 0 0] 31)
  have e2 : (wa.alloc (.cells #[.slice none 0 0] 31)).heap.size = w.heap.size + 2 := by simp; omega
  have g2 := World.grownBy_alloc wa (.cells #[.slice none 0 0] 31) none
  generalize wa.alloc (.cells #[.slice none 0 0] 31) = wb at H1 e2 g2 ⊢
  have H2 := heap_alloc_at wb (.cells #[.int .i64 0] 3)
  have e3 : (wb.alloc (.cells #[.int .i64 0] 3)).heap.size = w.heap.size + 3 := by simp; omega
  have g3 := World.grownBy_alloc wb (.cells #[.int .i64 0] 3) none
  generalize wb.alloc (.cells #[.int .i64 0] 3) = wc at H2 e3 g3 ⊢
  have H3 := heap_alloc_at wc (.cells #[.string s, .bool false] 93)
  have e4 : (wc.alloc (.cells #[.string s, .bool false] 93)).heap.size = w.heap.size + 4 := by simp; omega
  have g4 := World.grownBy_alloc wc (.cells #[.string s, .bool false] 93) none
  generalize wc.alloc (.cells #[.string s, .bool false] 93) = wd at H3 e4 g4 ⊢
  rw [e1] at H1
  rw [e2] at H2
  rw [e3] at H3
  have gd := ((g1.trans g2).trans g3).trans g4
  have B4 : Below w.heap.size w wd := ⟨gd.os, gd.tape, gd.output, gd.size, fun k hk => gd.block k hk (by simp)⟩
  have I0 : IAll s w w.heap.size [] (bs s) wd := ⟨(((g2.trans g3).trans g4).block _ (by omega) (by simp)).trans H0, ⟨.slice none 0 0, ((g3.trans g4).block _ (by omega) (by simp)).trans H1, ownsRl_nil _ _⟩, ((g4.block _ (by omega) (by simp)).trans H2).trans (by rw [bs_length, Nat.sub_self]; rfl), by rw [bs_length]; simp, B4, by omega⟩
  have RD0 : readerAt wd (w.heap.size + 3) ⟨bs s, false⟩ := H3
  have RO4 := Rounds_ext RO.out (ext_of B4)
  clear H0 H1 H2 H3 g1 g2 g3 g4 gd
  refine wpIn_all (w.heap.size + 3) (bs s) (by rw [bs_length]; exact hs) rfl rfl RD0 RO4 (IAll s w w.heap.size) I0 ?_ ?_ ?_
  · intro acc t A B row hi hg hr
    rw [e4] at hr
    exact hi.grow hg hr
  · intro acc t r u A hi hst hr hRd hz
    rw [e4] at hz ⊢
    obtain ⟨q, v, g, p, b⟩ := r
    unfold recV
    dsimp only
    have hul := step_short hst
    obtain ⟨i1, ⟨vv, i2, i3⟩, i4, ⟨i5, i5b⟩, i6, i7⟩ := hi
    gi_wp2
    refine ⟨⟨_, rfl⟩, fun o => ?_⟩
    have G2 : A.grownBy ((A.alloc (.cells #[.int .i64 q, .string v, .int .i64 g, .string p, .string b] 55)).putObj (w.heap.size + 4 + 1) o) (some (w.heap.size + 4 + 1)) := (World.grownBy_alloc A _ _).trans (grownBy_putObj' _ _ _)
    have HRc : ((A.alloc (.cells #[.int .i64 q, .string v, .int .i64 g, .string p, .string b] 55)).putObj (w.heap.size + 4 + 1) o).heap[A.heap.size]? = some (.cells #[.int .i64 q, .string v, .int .i64 g, .string p, .string b] 55 (0, 0)) := (World.putObj_heap_other (by omega)).trans (heap_alloc_at A _)
    generalize (A.alloc (.cells #[.int .i64 q, .string v, .int .i64 g, .string p, .string b] 55)).putObj (w.heap.size + 4 + 1) o = A2 at G2 HRc ⊢
    have hb : ∀ j, j < w.heap.size + 4 → A2.heap[j]? = A.heap[j]? := fun j hj => G2.block j (by omega) (by intro h; injection h with h; omega)
    have j1 := (hb _ (by omega)).trans i1
    have j2 := (hb _ (by omega)).trans i2
    have j4 := (hb _ (by omega)).trans i4
    have jr : readerAt A2 (w.heap.size + 3) ⟨u, false⟩ := (hb _ (by omega)).trans hr
    have jR := Rounds_grown hRd G2 (by have := RO.out.1; omega)
    have O2 : ownsRl A2 (w.heap.size + 6) vv acc := i3.kept G2 (fun j hj e => by injection e with e; have := (i3.base hj).1; omega)
    have B2 : Below w.heap.size w A2 := i6.grown G2 (by omega) (by rintro _ ⟨⟩; omega)
    have hA2 : w.heap.size + 6 ≤ A2.heap.size := Nat.le_trans hz G2.size
    obtain ⟨d0, d1, d2, d3, d4⟩ := rec_cells (r := ⟨q, v, g, p, b⟩) HRc
    dsimp only at d0 d1 d2 d3 d4
    have c1 := cellOne j2
    obtain ⟨i0, hi0, hz0, hz1, hz2⟩ := info_parts infoRec
    have hcell : ∀ j u, (recVs ⟨q, v, g, p, b⟩)[j]? = some u → (A2.alloc (.cells #[.int .i64 q, .string v, .int .i64 g, .string p, .string b] 55)).cell? ((⟨A2.heap.size, 0, none⟩ : Addr).add j) = some u := by
      intro j u hj
      have hadd : (⟨A2.heap.size, 0, none⟩ : Addr).add j = ⟨A2.heap.size, j, none⟩ := by unfold Addr.add; split <;> simp_all
      rw [hadd, World.cell?_alloc_new, show #[Value.int .i64 q, .string v, .int .i64 g, .string p, .string b] = (recVs ⟨q, v, g, p, b⟩).toArray from rfl, List.getElem?_toArray]
      exact hj
    have hone : ∀ u ∈ recVs ⟨q, v, g, p, b⟩, u.oneCell' = true := by intro u hu; simp [recVs] at hu; rcases hu with rfl | rfl | rfl | rfl | rfl <;> rfl
    have hal : acc.length ≤ 1048576 := by omega
    have pack : ∀ v' w1, World.ownsRow w1 (w.heap.size + 6) 55 5 v' (acc.length + 1) (flatRec acc ++ recVs ⟨q, v, g, p, b⟩) → World.grownBy (A2.alloc (.cells #[.int .i64 q, .string v, .int .i64 g, .string p, .string b] 55)) w1 vv.ownBlock →
        ∃ q' cp', v' = .slice q' (acc.length + 1) cp' ∧ ownsRl w1 (w.heap.size + 6) v' (acc ++ [⟨q, v, g, p, b⟩]) ∧ (∀ j, j < w.heap.size + 6 → w1.heap[j]? = A2.heap[j]?) ∧ Below w.heap.size w w1 ∧ w.heap.size + 6 ≤ w1.heap.size ∧ Rounds w1 := by
      intro v' w1 hown' hgrow
      have hO : ownsRl w1 (w.heap.size + 6) v' (acc ++ [⟨q, v, g, p, b⟩]) := by
        unfold ownsRl
        rw [flatRec_append, List.length_append]
        exact hown'
      obtain ⟨q', cp', hv⟩ := ownsRl_shape hO
      have hg := (World.grownBy_alloc A2 (.cells #[.int .i64 q, .string v, .int .i64 g, .string p, .string b] 55) vv.ownBlock).trans hgrow
      have hne : ∀ j, j < w.heap.size + 6 → some j ≠ vv.ownBlock := fun j hj e => by have := (O2.base e.symm).1; omega
      refine ⟨q', cp', by rw [hv]; simp, hO, fun j hj => hg.block j (by omega) (hne j hj), B2.grown hg (by omega) (fun j hj => by have := (O2.base hj).1; omega), Nat.le_trans hA2 hg.size, ?_⟩
      exact ⟨Nat.lt_of_lt_of_le jR.1 hg.size, fun i hi => by
        have := jR.2 i hi
        rw [cell_in] at this ⊢
        rw [hg.block _ jR.1 (hne _ (by have := RO.out.1; omega))]; exact this⟩
    have hub : (u.length : Int) ≤ s.size := by omega
    have hk6 : w.heap.size + 6 ≤ (A2.alloc (.cells #[.int .i64 q, .string v, .int .i64 g, .string p, .string b] 55)).heap.size := by simp; omega
    clear hst i1 i2 i3 i4 i6 hr hRd G2 HRc hb hz e1 e2 e3 e4 B4 I0 RD0 RO4
    gi_wp2_with (gi_at_builtin; refine wpListIn_append_own _ rfl _ _ 31 rfl (w.heap.size + 6) 55 i0 (.agg (recV zeroR)) 5 64 Tryz.underlying31 hi0 hz0 hz1 hz2 rfl (by decide) vv acc.length (flatRec acc) rfl (World.ownsRow.alloc O2 _) ⟨A2.heap.size, 0, none⟩ 1 1 (recVs ⟨q, v, g, p, b⟩) rfl rfl hcell hone (by unfold maxLen; omega) (by omega) hk6 ?_; intro v' w1 hown' hgrow _; obtain ⟨q', cp', rfl, hO, hh, hB, hs1, hR1⟩ := pack _ _ hown' hgrow; have k1 := (hh _ (by omega)).trans j1; have k2 := (hh _ (by omega)).trans j2; have k4 := (hh _ (by omega)).trans j4; have m1 := cellOne k1; have m2 := cellOne k2; have m4 : w1.cell? ⟨w.heap.size + 1 + 1, 0, none⟩ = _ := cellOne k4; have f2 := free_of_heap k2; have f4 : ∀ i, w1.frozen? ⟨w.heap.size + 1 + 1, i, none⟩ = false := free_of_heap k4)
    rw [show (s.size : Int) - (u.length : Int) = ((s.size - u.length : Nat) : Int) from by omega]
    have GS1 := grown_setCell w1 (w.heap.size + 1) 0 (.slice q' (acc.length + 1) cp')
    have S1 : (w1.setCell ⟨w.heap.size + 1, 0, none⟩ (.slice q' (acc.length + 1) cp')).heap[w.heap.size + 1]? = some (.cells #[.slice q' (acc.length + 1) cp'] 31 (0, 0)) := heap_setCell (i := 0) k2 _
    have T1 := (GS1.block (w.heap.size + 2) (by omega) (by intro h; injection h with h; omega)).trans k4
    generalize w1.setCell ⟨w.heap.size + 1, 0, none⟩ (.slice q' (acc.length + 1) cp') = w2 at GS1 S1 T1 ⊢
    have GS2 := grown_setCell w2 (w.heap.size + 1 + 1) 0 (.int .i64 ((s.size - u.length : Nat) : Int))
    have T2 : (w2.setCell ⟨w.heap.size + 1 + 1, 0, none⟩ (.int .i64 ((s.size - u.length : Nat) : Int))).heap[w.heap.size + 2]? = some (.cells #[.int .i64 ((s.size - u.length : Nat) : Int)] 3 (0, 0)) := heap_setCell (i := 0) T1 _
    generalize w2.setCell ⟨w.heap.size + 1 + 1, 0, none⟩ (.int .i64 ((s.size - u.length : Nat) : Int)) = w3 at GS2 T2 ⊢
    have z2 := GS1.size
    have z3 := GS2.size
    have hW : ∀ j, j < w.heap.size + 6 → j ≠ w.heap.size + 1 → j ≠ w.heap.size + 2 → w3.heap[j]? = w1.heap[j]? := fun j h1 h2 h3 =>
      (GS2.block j (by omega) (by intro h; injection h with h; omega)).trans (GS1.block j (by omega) (by intro h; injection h with h; omega))
    refine ⟨(hW _ (by omega) (by omega) (by omega)).trans (hh _ (by omega)), (hW _ (by omega) (by omega) (by omega)).trans (hh _ (by omega)), ⟨(hW _ (by omega) (by omega) (by omega)).trans k1, ⟨_, (GS2.block _ (by omega) (by intro h; injection h with h; omega)).trans S1, ?_⟩, T2, ⟨by simp; omega, by omega⟩, ?_, by omega⟩, (hW _ (by omega) (by omega) (by omega)).trans ((hh _ (by omega)).trans jr), Rounds_grown (Rounds_grown hR1 GS1 (by have := RO.out.1; omega)) GS2 (by have := RO.out.1; omega)⟩
    · have O3 := (hO.kept GS1 (fun j hj e => by injection e with e; have := (hO.base hj).1; omega)).kept GS2 (fun j hj e => by injection e with e; have := (hO.base hj).1; omega)
      exact O3
    · exact (hB.grown GS1 (by omega) (by rintro _ ⟨⟩; omega)).grown GS2 (by omega) (by rintro _ ⟨⟩; omega)
  · intro acc t A hrun hst hi hk
    rw [e4] at hk ⊢
    gi_wp2
    obtain ⟨i1, ⟨vv, i2, i3⟩, i4, ⟨i5, i5b⟩, i6, i7⟩ := hi
    obtain ⟨q', cp', rfl⟩ := ownsRl_shape i3
    have c2 := cellOne i2
    have c4 : A.cell? ⟨w.heap.size + 1 + 1, 0, none⟩ = _ := cellOne i4
    have hl1 : w.heap.size + 1 < A.heap.size := by omega
    have hl2 : w.heap.size + 1 + 1 < A.heap.size := by omega
    have hS := Lib.hid (RunL.stop hrun hst)
    clear hrun hst e1 e2 e3 e4 B4 I0 RD0 RO4
    have hmix2 := hmix
    gi_region_o
    all_goals
      gi_wp2
      refine ⟨by simp, .inl ⟨_, _, rfl, run_takeDeferred (hk : A.drew.heap[w.heap.size + 4]? = _), ?_⟩⟩
      refine ⟨_, results_tmp2 rfl _ _ _, ?_⟩
      have GD : A.grownBy (A.drew.putObj (w.heap.size + 4) (.deferred none)) (some (w.heap.size + 4)) := (⟨rfl, rfl, rfl, Nat.le_refl _, fun _ _ _ => rfl⟩ : A.grownBy A.drew _).trans (grownBy_putObj' _ _ _)
      unfold AllPost
      rw [hS.out]
      exact ⟨_, rfl, ownsRl_low (i3.kept GD (fun j hj e => by injection e with e; have := (i3.base hj).1; omega)) (by omega), (show acc.length ≤ s.size by omega), i6.grown GD (by omega) (by rintro _ ⟨⟩; omega)⟩
end Go.Proofs.YtgckpfeeioljeaaGreatDoor
