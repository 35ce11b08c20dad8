/- table.Compare: what the sort asks of it. · Ranging over a table's map. · Slices of rows that the call owns: appended to, sorted. -/
import Derived.Test.YtnkmckdefiblhaaGreatDoorProg
import Derived.Test.YtnkmckdefiblhaaGreatDoorG4
import Derived.Test.YtnkmckdefiblhaaGreatDoorShelfT
import Derived.Maps.AppendAt
namespace Go.Proofs.YtnkmckdefiblhaaGreatDoor
open Go.RowKit Go.Shelf

theorem wp_region_tailN {P : Program} {id : Nat} {Q : Exit → Act → World → Prop} {a : Act} {w : World} {l : List Oper} (n : Nat) (hm : P.follows .mixedOrders = true) (hB : tailB 0 n l = true)
    (h : wpQuiet P l.toArray (fun w' => ∃ k, w' = w.drewN k) (fun a' => ∀ w', (∃ k, w' = w.drewN k) → wpList P l.toArray Q (l.drop n) a' w') (l.take n) a) : (Code.region id l.toArray true).wp P Q a w := by
  refine wp_region_any hm ?_
  have := wpAny_of_parts (P := P) (C := fun w' => ∃ k, w' = w.drewN k) (w := { w with drawn := w.drawn + 1 }) hB ⟨1, rfl⟩ (fun i o hi => absurd hi (Nat.not_lt_zero i)) 0 0 a rfl (by simpa using h)
  simpa [firstOf_zero] using this
set_option maxRecDepth 100000 in
set_option maxHeartbeats 1000000 in
theorem tcompare_grow (c d : Cell) (w : World) :
    Calls Tryz.prog 98 #[.agg (cellA c), .agg (cellA d)] w fun e w' => e = .returned (.int .i64 (ccmp c d)) ∧ ∃ q os, w' = Go.Sort.grow (w.drewN q) os := by
  have C1 := fun w => compare_any c.table d.table w
  have C2 := fun w => compare_any c.row d.row w
  have HE : Hid (ccmp c d = if cmpL (txt c.table) (txt d.table) = 0 then cmpL (txt c.row) (txt d.row) else cmpL (txt c.table) (txt d.table)) := Lib.hid rfl
  generalize cmpL (txt c.table) (txt d.table) = a at C1 HE
  generalize cmpL (txt c.row) (txt d.row) = b at C2 HE
  generalize ccmp c d = r at HE
  unfold cellA
  obtain ⟨t, o, s, v⟩ := c
  obtain ⟨t', o', s', v'⟩ := d
  dsimp only at C1 C2 ⊢
  go_enter Tryz.func98, Tryz.ntmps98
  go_wp2_with fail
  have H0 : Hid ((w.alloc (.cells #[.string t, .string o, .string s, .string v] 152)).heap[w.heap.size]? = some (.cells (cellA ⟨t, o, s, v⟩) 152 (0, 0))) := Lib.hid (heap_alloc_at _ _)
  have e0 : (w.alloc (.cells #[.string t, .string o, .string s, .string v] 152)).heap.size = w.heap.size + 1 := by simp
  have X0 : Hid (w.alloc (.cells #[.string t, .string o, .string s, .string v] 152) = Go.Sort.grow w #[.cells #[.string t, .string o, .string s, .string v] 152 (0, 0)]) := Lib.hid (Go.Sort.alloc_eq_grow _ _)
  generalize w.alloc (.cells #[.string t, .string o, .string s, .string v] 152) = w0 at H0 X0 e0 ⊢
  have H1 : Hid ((w0.alloc (.cells #[.string t', .string o', .string s', .string v'] 152)).heap[w.heap.size + 1]? = some (.cells (cellA ⟨t', o', s', v'⟩) 152 (0, 0))) := Lib.hid (by rw [← e0]; exact heap_alloc_at _ _)
  have H01 := Lib.hid ((heap_alloc_old w0 (.cells #[.string t', .string o', .string s', .string v'] 152) (lt_of_heap H0.out)).trans H0.out)
  have X1 : Hid (∃ os, w0.alloc (.cells #[.string t', .string o', .string s', .string v'] 152) = Go.Sort.grow w os) := Lib.hid ⟨_, by rw [Go.Sort.alloc_eq_grow, X0.out, Go.Sort.grow_grow]⟩
  generalize w0.alloc (.cells #[.string t', .string o', .string s', .string v'] 152) = w1 at H1 H01 X1 ⊢
  clear H0 X0 e0
  obtain ⟨c0, c1, c2, c3⟩ := cell_cells H01.out
  obtain ⟨d0, d1, d2, d3⟩ := cell_cells H1.out
  have lw1 := lt_of_heap H1.out
  dsimp only at c0 c1 c2 c3 d0 d1 d2 d3
  refine wp_region_tailN 10 (by kernel_rfl) (by kernel_rfl) ?_
  simp only [List.take_succ_cons, List.take_zero, List.drop_succ_cons, List.drop_zero]
  iterate 5 (go_big_quiet_step ((go_at_call 126; refine (C1 _).mono ?_; rintro _ _ ⟨rfl, rfl⟩; exact ⟨rfl, ⟨_, rfl⟩⟩)))
  repeat (go_big_quiet_step ((go_at_call 126; refine (C2 _).mono ?_; rintro _ _ ⟨rfl, rfl⟩; exact ⟨rfl, ⟨_, rfl⟩⟩)))
  refine wpQuiet_nil ?_
  rintro _ ⟨x, rfl⟩
  have X2 : Hid (∃ q os, (w1.drewN x).alloc (.cells #[.int .i64 a, .int .i64 b] 3) = Go.Sort.grow (w.drewN q) os) := Lib.hid (by
    obtain ⟨os, e⟩ := X1.out
    refine ⟨x, os ++ #[.cells #[.int .i64 a, .int .i64 b] 3 (0, 0)], ?_⟩
    rw [Go.Sort.alloc_eq_grow, e]
    show Go.Sort.grow (Go.Sort.grow (w.drewN x) os) _ = _
    rw [Go.Sort.grow_grow])
  have HS := heap_alloc_at (w1.drewN x) (.cells #[.int .i64 a, .int .i64 b] 3)
  generalize w1.drewN x = w2 at X2 HS ⊢
  clear H1 H01 X1 c0 c1 c2 c3 d0 d1 d2 d3 lw1
  go_wp2_with fail
  refine (or_any a b _ _ HS).mono ?_
  rintro _ w3 ⟨rfl, rfl⟩
  rw [← HE.out]
  clear HS
  go_wp2_with fail
  go_ret
  exact ⟨rfl, X2.out⟩

/-! ### What the sort asks -/
theorem isAggC (w : World) : (isAgg 152).run Tryz.prog w = .ok true w := by kernel_rfl
theorem sizeOfC (w : World) : (Go.sizeOf 152).run Tryz.prog w = .ok 4 w := by kernel_rfl
theorem ltOf_ccmp (c d : Cell) : ltOf ccmp c d = kless (ck c) (ck d) := by
  unfold ltOf ccmp
  rw [Bool.eq_iff_iff, decide_eq_true_eq]
  exact kcmp_neg
theorem swoC : Go.Sort.SWO (ltOf ccmp) where
  irrefl x := by rw [ltOf_ccmp]; exact kless_irrefl _
  trans x y z h1 h2 := by rw [ltOf_ccmp] at *; exact kless_trans h1 h2
  ntrans x y z h1 h2 := by
    rw [ltOf_ccmp] at *
    rw [← Bool.not_eq_true]
    intro h3
    by_cases e : kless (ck y) (ck x) = true
    · have := kless_trans e h3
      rw [h2] at this; cases this
    · have e' : ck x = ck y := kless_total h1 (by simpa using e)
      rw [e'] at h3
      rw [h2] at h3; cases h3
theorem cmpLaysC (blk off size : Nat) (w : World) : CmpLays Tryz.prog 98 #[] cellVs 4 ccmp blk off size w :=
  fun _ _ _ _ c d => tcompare_grow c d _
theorem sort_cells (blk off cap : Nat) (d : Array Cell) (w : World) (hH : Go.Sort.HoldsK cellVs 4 w blk off d) (hblk : blk < w.heap.size) (hsz : d.size < 4611686018427387904) :
    Calls Tryz.prog 117 #[.slice (some ⟨blk, off, none⟩) d.size cap, .func (.func 98) #[] #[]] w fun e w' =>
      e = .returned (.tuple #[]) ∧ ∃ d' n os, Go.Sort.PermIn 0 d.size d d' ∧ Go.Sort.SortedIn (ltOf ccmp) 0 d.size d' ∧ w' = sortWorldK cellVs 4 w blk off n d' os :=
  AnyQ.slices_SortFunc Tryz.sortCells 4 isAggC sizeOfC cellVs (fun _ => rfl) (fun x v hv => by simp [cellVs] at hv; rcases hv with rfl | rfl | rfl | rfl <;> rfl) ccmp swoC 98 #[] blk off cap d w (enters_of Tryz.func98 (by kernel_rfl) rfl) (cmpLaysC blk off d.size w) hH hblk hsz
theorem sort_none (p : Option Addr) (cap : Nat) (fv : Value) (w : World) :
    Calls Tryz.prog 117 #[.slice p 0 cap, fv] w fun e w' => e = .returned (.tuple #[]) ∧ w' = w :=
  AnyF.slices_SortFunc_none Tryz.sortCells p cap fv w
end Go.Proofs.YtnkmckdefiblhaaGreatDoor
namespace Go.Proofs.YtnkmckdefiblhaaGreatDoor
open Go.RowKit Go.WideShapes

structure rangeAt (w : World) (b r n : Nat) (T : List Cell) (left : Lit → Bool) (cnt : Nat) : Prop where
  own : ∃ es, w.ranges Tryz.prog 197 cellR b r n (.map es) left cnt ∧ es.Perm (T.map ent)
  once : Once T
  small : ∀ c ∈ T, smallC c
theorem rangeAt.map {w : World} {b r n : Nat} {T : List Cell} {left : Lit → Bool} {cnt : Nat} (h : rangeAt w b r n T left cnt) : mapAt w b n T := by
  obtain ⟨es, hr, hp⟩ := h.own
  exact ⟨⟨es, hr.owns, hp⟩, h.once, h.small⟩
theorem rangeAt.ne {w : World} {b r n : Nat} {T : List Cell} {left : Lit → Bool} {cnt : Nat} (h : rangeAt w b r n T left cnt) : r ≠ b := by
  obtain ⟨es, hr, hp⟩ := h.own
  exact hr.ne
theorem rangeAt.lt {w : World} {b r n : Nat} {T : List Cell} {left : Lit → Bool} {cnt : Nat} (h : rangeAt w b r n T left cnt) : r < w.heap.size := by
  obtain ⟨es, hr, hp⟩ := h.own
  exact hr.lt
theorem rangeAt.left_eq {w : World} {b r n : Nat} {T : List Cell} {left : Lit → Bool} {cnt : Nat} (h : rangeAt w b r n T left cnt) : w.rangeLeft b r = cnt := by
  obtain ⟨es, hr, hp⟩ := h.own
  exact hr.left_eq
theorem rangeAt.kept {w w' : World} {b r n : Nat} {T : List Cell} {left : Lit → Bool} {cnt : Nat} {row : Option Nat} (h : rangeAt w b r n T left cnt) (hg : w.grownBy w' row) (h1 : some b ≠ row) (h2 : some r ≠ row) : rangeAt w' b r n T left cnt := by
  obtain ⟨es, hr, hp⟩ := h.own
  exact ⟨⟨es, hr.kept hg h1 h2, hp⟩, h.once, h.small⟩
/-- 'range m'. -/
theorem mapAt.range {w : World} {b n : Nat} {T : List Cell} (h : mapAt w b n T) :
    ∃ w' left cnt, (Instr.range 68 (.map (some b))).run Tryz.prog w = .ok (.pointer (some ⟨w.heap.size, 0, none⟩)) w' ∧ rangeAt w' b w.heap.size n T left cnt ∧ (∀ c ∈ T, left (keyLit (ck c)) = true) ∧ w.grownBy w' none ∧ w'.heap.size = w.heap.size + 1 := by
  obtain ⟨es, hown, hp⟩ := h.own
  obtain ⟨w', hrun, hr, hg, hs⟩ := hown.range (t := 68) (e := 152) lawA Tryz.underlying68
  refine ⟨w', _, _, hrun, ⟨⟨es, hr, hp⟩, h.once, h.small⟩, ?_, hg, hs⟩
  intro c hc
  exact List.any_eq_true.2 ⟨ent c, hp.mem_iff.2 (List.mem_map_of_mem hc), (sameKey_lit _ _).2 rfl⟩
def strike (left : Lit → Bool) (c : Cell) : Lit → Bool := fun z => left z && !z.sameKey (keyLit (ck c))
/-- The step. -/
theorem rangeAt.next {w : World} {b r n : Nat} {T : List Cell} {left : Lit → Bool} {cnt : Nat} (h : rangeAt w b r n T left cnt) (ty : TypeId) :
    (cnt = 0 ∧ (∀ kl, left kl = false) ∧ (Instr.next (.pointer (some ⟨r, 0, none⟩)) false ty).run Tryz.prog w = .ok (.tuple #[.bool false]) w) ∨
    ∃ c w' cnt', c ∈ T ∧ left (keyLit (ck c)) = true ∧ (Instr.next (.pointer (some ⟨r, 0, none⟩)) false ty).run Tryz.prog w = .ok (.tuple #[.bool true, .agg #[.string c.table, .string c.row], .agg (cellA c)]) w' ∧
      rangeAt w' b r n T (strike left c) cnt' ∧ cnt' < cnt ∧ w.grownBy w' (some r) ∧ w'.heap.size = w.heap.size ∧ (Instr.entry (.pointer (some ⟨r, 0, none⟩))).run Tryz.prog w' = .ok (.tuple #[.agg #[.string c.table, .string c.row], .agg (cellA c)]) w' := by
  obtain ⟨es, hr, hp⟩ := h.own
  rcases hr.next lawA ty with ⟨h0, hl, hrun⟩ | ⟨key, v, kl, y, w', cnt', hkey, hlk, hv, hat, hrun, hrg, hlt, hgr, hsz, hen⟩
  · exact .inl ⟨h0, hl, hrun⟩
  · right
    have h1 : ∃ p ∈ es, p.1.sameKey kl = true ∧ p.2 = y.1 := by
      have ha := hat (.lit (.bool true))
      have hb := hat (.lit (.bool false))
      unfold DataW.atKey at ha hb
      dsimp only at ha hb
      cases hf : es.find? fun p => p.1.sameKey kl with
      | none =>
        rw [hf] at ha hb
        have := ha.trans hb.symm
        simp at this
      | some p =>
        rw [hf] at ha
        exact ⟨p, List.mem_of_find?_eq_some hf, List.find?_some (p := fun p : Lit × DataW Unit => p.1.sameKey kl) hf, ha⟩
    obtain ⟨p, hpe, hpk, hpv⟩ := h1
    obtain ⟨c, hc, rfl⟩ := List.mem_map.1 (hp.mem_iff.1 hpe)
    have hkl : keyLit (ck c) = kl := WideAt.sameKey_eq hpk
    subst hkl
    have hs := h.small c hc
    have hk2 := lawA.inj hkey (key_of c.table c.row hs.1 hs.2)
    subst hk2
    obtain ⟨d, rfl, hy⟩ := cellR_inv hv
    have hd : c = d := cellD_inj (by have := congrArg Prod.fst hy; exact hpv.trans this)
    subst hd
    exact ⟨c, w', cnt', hc, hlk, hrun, ⟨⟨es, hrg, hp⟩, h.once, h.small⟩, hlt, hgr, hsz, hen⟩
/-- 'delete(m, k)' in the round. -/
theorem rangeAt.drop {w : World} {b r n : Nat} {T : List Cell} {left : Lit → Bool} {cnt : Nat} (h : rangeAt w b r n T left cnt) (c : Cell) (hc : smallC c) (ty : TypeId) :
    ∃ w' cnt', (Builtin.delete_ #[68, 197] ty #[.map (some b), .agg #[.string c.table, .string c.row]]).run Tryz.prog w = .ok (.tuple #[]) w' ∧ rangeAt w' b r n (delT (ck c) T) (strike left c) cnt' ∧ cnt' ≤ cnt ∧ w.grownBy w' (some b) := by
  obtain ⟨es, hr, hp⟩ := h.own
  obtain ⟨w', cnt', hrun, hrg, hle, ht⟩ := hr.drop (t := 68) (e := 152) lawA Tryz.underlying68 (key_of c.table c.row hc.1 hc.2) ty
  refine ⟨w', cnt', hrun, ⟨⟨_, hrg, ?_⟩, h.once.filter _, fun d hd => h.small d (List.mem_filter.1 hd).1⟩, hle, ht.grown⟩
  refine (hp.filter _).trans ?_
  rw [filter_ent h.small hc.1 hc.2]
  exact .refl _
section
variable {ops : Array Oper} {rest : List Oper} {o : Oper} {a : Act} {w : World} {Q : Exit → Act → World → Prop}
theorem wpList_range_rows (hg : o.guard = none) (m : Operand) (hop : o.op = Op.range 68 m) (b n : Nat) (T : List Cell) (hm : a.eval m = .map (some b)) (h : mapAt w b n T)
    (hK : ∀ w' left cnt, rangeAt w' b w.heap.size n T left cnt → (∀ c ∈ T, left (keyLit (ck c)) = true) → w.grownBy w' none → w'.heap.size = w.heap.size + 1 → wpList Tryz.prog ops Q rest (a.put o.dst (.pointer (some ⟨w.heap.size, 0, none⟩))) w') :
    wpList Tryz.prog ops Q (o :: rest) a w := by
  refine wpList_plain hg fun K' hK' => ?_
  obtain ⟨w', left, cnt, hrun, r1, r2, r3, r4⟩ := h.range
  unfold Oper.wp
  simp [execOp, hop, hm, hrun, Result.andThen]
  exact hK' _ _ (hK w' left cnt r1 r2 r3 r4)
theorem wpList_next_rows (hg : o.guard = none) (it : Operand) (hop : o.op = Op.next it false) (b r n : Nat) (T : List Cell) (left : Lit → Bool) (cnt : Nat) (hit : a.eval it = .pointer (some ⟨r, 0, none⟩)) (h : rangeAt w b r n T left cnt)
    (hDone : cnt = 0 → (∀ kl, left kl = false) → wpList Tryz.prog ops Q rest (a.put o.dst (.tuple #[.bool false])) w)
    (hMore : ∀ (c : Cell) (w' : World) (cnt' : Nat), c ∈ T → left (keyLit (ck c)) = true → rangeAt w' b r n T (strike left c) cnt' → cnt' < cnt → w.grownBy w' (some r) → w'.heap.size = w.heap.size →
      (Instr.entry (.pointer (some ⟨r, 0, none⟩))).run Tryz.prog w' = .ok (.tuple #[.agg #[.string c.table, .string c.row], .agg #[.string c.table, .string c.row, .string c.subject, .string c.value]]) w' →
      wpList Tryz.prog ops Q rest (a.put o.dst (.tuple #[.bool true, .agg #[.string c.table, .string c.row], .agg #[.string c.table, .string c.row, .string c.subject, .string c.value]])) w') :
    wpList Tryz.prog ops Q (o :: rest) a w := by
  refine wpList_plain hg fun K' hK' => ?_
  unfold Oper.wp
  rcases h.next o.type with ⟨h0, hl, hrun⟩ | ⟨c, w', cnt', hc, hlk, hrun, hrg, hlt, hgr, hsz, hen⟩
  · simp [execOp, hop, hit, hrun, Result.andThen]
    exact hK' _ _ (hDone h0 hl)
  · simp [execOp, hop, hit, hrun, Result.andThen]
    exact hK' _ _ (hMore c w' cnt' hc hlk hrg hlt hgr hsz hen)
theorem wpList_del_range_rows (hg : o.guard = none) (m x : Operand) (hop : o.op = Op.call { callee := Callee.builtin Builtin.delete, args := #[m, x], argTypes := #[68, 197] }) (b r n : Nat) (T : List Cell) (left : Lit → Bool) (cnt : Nat)
    (hm : a.eval m = .map (some b)) (h : rangeAt w b r n T left cnt) (c : Cell) (hc : smallC c) (hx : a.eval x = .agg #[.string c.table, .string c.row])
    (hK : ∀ w' cnt', rangeAt w' b r n (delT (ck c) T) (strike left c) cnt' → cnt' ≤ cnt → w.grownBy w' (some b) → wpList Tryz.prog ops Q rest (a.put o.dst (.tuple #[])) w') :
    wpList Tryz.prog ops Q (o :: rest) a w := by
  refine wpList_plain hg fun K' hK' => ?_
  obtain ⟨w', cnt', hrun, r1, r2, r3⟩ := h.drop c hc o.type
  unfold Oper.wp
  simp [execOp, hop, resolve, invoke, builtin, hm, hx, hrun, Result.andThen]
  exact hK' _ _ (hK w' cnt' r1 r2 r3)
theorem wpList_del_rows (hg : o.guard = none) (m x : Operand) (hop : o.op = Op.call { callee := Callee.builtin Builtin.delete, args := #[m, x], argTypes := #[68, 197] }) (b n : Nat) (T : List Cell)
    (hm : a.eval m = .map (some b)) (h : mapAt w b n T) (t r : ByteArray) (ht : t.size ≤ maxLen) (hr : r.size ≤ maxLen) (hx : a.eval x = .agg #[.string t, .string r])
    (hK : ∀ w', mapAt w' b n (delT (txt t, txt r) T) → w.grownBy w' (some b) → wpList Tryz.prog ops Q rest (a.put o.dst (.tuple #[])) w') :
    wpList Tryz.prog ops Q (o :: rest) a w := by
  refine wpList_plain hg fun K' hK' => ?_
  obtain ⟨w', hrun, r1, r2⟩ := h.del ht hr o.type
  unfold Oper.wp
  simp [execOp, hop, resolve, invoke, builtin, hm, hx, hrun, Result.andThen]
  exact hK' _ _ (hK w' r1 r2)
theorem wpList_put_rows (hg : o.guard = none) (m x v : Operand) (hop : o.op = Op.mapUpdate 68 m x v) (b n : Nat) (T : List Cell)
    (hm : a.eval m = .map (some b)) (h : mapAt w b n T) (hn : n < maxLen) (c : Cell) (hc : smallC c) (hx : a.eval x = .agg #[.string c.table, .string c.row]) (hv : a.eval v = .agg (cellA c))
    (hK : ∀ w', mapAt w' b (n + 1) (putT c T) → w.grownBy w' (some b) → wpList Tryz.prog ops Q rest (a.put o.dst undef) w') :
    wpList Tryz.prog ops Q (o :: rest) a w := by
  refine wpList_plain hg fun K' hK' => ?_
  obtain ⟨w', hrun, r1, r2⟩ := h.put c hc hn
  unfold Oper.wp
  simp [execOp, hop, hm, hx, hv, hrun, Result.andThen]
  exact hK' _ _ (hK w' r1 r2)
end
/-! ### What is left -/
theorem key_ne {c d : Cell} (hc : smallC c) (hd : smallC d) (h : ck d ≠ ck c) : (keyLit (ck d)).sameKey (keyLit (ck c)) = false := by
  have := ent_key hd hc.1 hc.2
  unfold ent at this
  dsimp only at this
  rw [show (txt c.table, txt c.row) = ck c from rfl] at this
  rw [this, decide_eq_false_iff_not]; exact h
theorem strike_same (left : Lit → Bool) (c : Cell) : strike left c (keyLit (ck c)) = false := by
  unfold strike; rw [(sameKey_lit _ _).2 rfl]; simp
theorem strike_other (left : Lit → Bool) {c d : Cell} (hc : smallC c) (hd : smallC d) (h : ck d ≠ ck c) : strike left c (keyLit (ck d)) = left (keyLit (ck d)) := by
  unfold strike; rw [key_ne hc hd h]; simp
theorem strike_twice (left : Lit → Bool) (c : Cell) : strike (strike left c) c = strike left c := by
  funext z; unfold strike; cases left z <;> cases z.sameKey (keyLit (ck c)) <;> rfl
/-- The rows, but those of a subject that have come. -/
def goneLeft (s : List UInt8) (T : List Cell) (left : Lit → Bool) : List Cell := T.filter fun c => !decide (txt c.subject = s) || left (keyLit (ck c))
theorem goneLeft_start {s : List UInt8} {T : List Cell} {left : Lit → Bool} (h : ∀ c ∈ T, left (keyLit (ck c)) = true) : goneLeft s T left = T := by
  unfold goneLeft
  rw [List.filter_eq_self]
  intro c hc; rw [h c hc]; simp
theorem goneLeft_end {s : List UInt8} {T : List Cell} {left : Lit → Bool} (h : ∀ kl, left kl = false) : goneLeft s T left = goneT s T := by
  unfold goneLeft goneT
  apply List.filter_congr
  intro c hc; rw [h]; simp
theorem goneLeft_other {s : List UInt8} {T : List Cell} {left : Lit → Bool} (ho : Once T) (hs : ∀ c ∈ T, smallC c) {c : Cell} (hc : c ∈ T) (h : txt c.subject ≠ s) : goneLeft s T (strike left c) = goneLeft s T left := by
  unfold goneLeft
  apply List.filter_congr
  intro d hd
  by_cases e : ck d = ck c
  · rw [once_eq ho hd hc e]; simp [h]
  · rw [strike_other left (hs c hc) (hs d hd) e]
theorem goneLeft_drop {s : List UInt8} {T : List Cell} {left : Lit → Bool} (ho : Once T) (hs : ∀ c ∈ T, smallC c) {c : Cell} (hc : c ∈ T) (h : txt c.subject = s) : delT (ck c) (goneLeft s T left) = goneLeft s T (strike left c) := by
  unfold goneLeft delT
  rw [List.filter_filter]
  apply List.filter_congr
  intro d hd
  by_cases e : ck d = ck c
  · rw [once_eq ho hd hc e, strike_same]; simp [h]
  · rw [strike_other left (hs c hc) (hs d hd) e]; simp [e]
end Go.Proofs.YtnkmckdefiblhaaGreatDoor
namespace Go.Proofs.YtnkmckdefiblhaaGreatDoor
open Go.RowKit Go.Shelf

/-- Rows' cells, one behind the other. -/
def flatC (l : List Cell) : List Value := l.flatMap cellVs
theorem flatC_length : ∀ l : List Cell, (flatC l).length = l.length * 4
  | [] => rfl
  | c :: l => by
    have h : flatC (c :: l) = cellVs c ++ flatC l := rfl
    rw [h, List.length_append, flatC_length l]
    simp [cellVs]; omega
theorem flatC_append (l m : List Cell) : flatC (l ++ m) = flatC l ++ flatC m := List.flatMap_append
theorem flatC_get : ∀ (l : List Cell) (t : Nat), t < l.length * 4 → (flatC l)[t]? = some ((cellVs (l[t / 4]!))[t % 4]!)
  | [], t, h => by simp at h
  | c :: l, t, h => by
    have e : flatC (c :: l) = cellVs c ++ flatC l := rfl
    rw [e]
    have hl : (cellVs c).length = 4 := rfl
    by_cases h4 : t < 4
    · rw [List.getElem?_append_left (by rw [hl]; exact h4)]
      have h0 : t / 4 = 0 := by omega
      have h1 : t % 4 = t := by omega
      rw [h0, h1, List.getElem?_eq_getElem (by rw [hl]; exact h4)]
      simp [hl, h4]
    · rw [List.getElem?_append_right (by rw [hl]; omega), hl]
      have hlt : t - 4 < l.length * 4 := by simp at h; omega
      rw [flatC_get l (t - 4) hlt]
      have h0 : t / 4 = (t - 4) / 4 + 1 := by omega
      have h1 : t % 4 = (t - 4) % 4 := by omega
      rw [h0, h1]
      simp
theorem flatK_get (l : List Cell) (t : Nat) (h : t < l.length * 4) : (Go.Sort.flatK cellVs 4 l.toArray)[t]? = (flatC l)[t]? := by
  rw [flatC_get l t h]
  have h2 := Go.Sort.get_flatK cellVs 4 l.toArray t (by simpa using h)
  have hs : t < (Go.Sort.flatK cellVs 4 l.toArray).size := by simpa using h
  rw [getElem!_pos _ t hs] at h2
  rw [Array.getElem?_eq_getElem hs, h2]
  simp
/-- A slice of rows of the call's own. -/
def ownsCl (w : World) (base : Nat) (v : Value) (l : List Cell) : Prop := w.ownsRow base 152 4 v l.length (flatC l)
theorem ownsCl_nil (w : World) (base : Nat) : ownsCl w base (.slice none 0 0) [] := ⟨rfl, .inl ⟨rfl, rfl⟩⟩
theorem infoC : (Tryz.prog.info? 152).map (fun i => (i.zero, i.size, i.bytes)) = some (some (.agg (cellA zeroC)), 4, 64) := by kernel_rfl
theorem ownsCl.kept {w w' : World} {base : Nat} {v : Value} {l : List Cell} {row : Option Nat} (h : ownsCl w base v l) (hg : w.grownBy w' row) (hne : ∀ g, v.ownBlock = some g → some g ≠ row) : ownsCl w' base v l := by
  obtain ⟨h1, ⟨rfl, h2⟩ | ⟨g, cap, cur, rfl, hb, hh, h3⟩⟩ := h
  · exact ⟨h1, .inl ⟨rfl, h2⟩⟩
  · exact ⟨h1, .inr ⟨g, cap, cur, rfl, hb, (hg.block g (lt_of_heap hh) (hne g rfl)).trans hh, h3⟩⟩
theorem ownsCl.base {w : World} {base : Nat} {v : Value} {l : List Cell} (h : ownsCl w base v l) {g : Nat} (hg : v.ownBlock = some g) : base ≤ g ∧ g < w.heap.size := by
  obtain ⟨h1, ⟨rfl, h2⟩ | ⟨g', cap, cur, rfl, hb, hh, h3⟩⟩ := h
  · simp [Value.ownBlock] at hg
  · simp only [Value.ownBlock, Option.some.injEq] at hg
    subst hg
    exact ⟨hb, lt_of_heap hh⟩
theorem ownsCl.low {w : World} {base b : Nat} {v : Value} {l : List Cell} (h : ownsCl w base v l) (hb : b ≤ base) : ownsCl w b v l := by
  obtain ⟨h1, h2 | ⟨g, cap, cur, hv, hb', h3⟩⟩ := h
  · exact ⟨h1, .inl h2⟩
  · exact ⟨h1, .inr ⟨g, cap, cur, hv, Nat.le_trans hb hb', h3⟩⟩
/-- A slice of rows, its cells. -/
theorem ownsCl_form {w : World} {base : Nat} {v : Value} {l : List Cell} (h : ownsCl w base v l) (hl : l ≠ []) :
    ∃ g cap cur, v = .slice (some ⟨g, 0, none⟩) l.length cap ∧ base ≤ g ∧ w.heap[g]? = some (.cells cur 152 (0, 0)) ∧ l.length ≤ cap ∧ cap ≤ maxLen ∧ cur.size = cap * 4 ∧ cur.toList.take (l.length * 4) = flatC l := by
  obtain ⟨_, ⟨rfl, h0⟩ | ⟨g, cap, cur, rfl, hb, hh, hn, hc, hsz, hx⟩⟩ := h
  · exact absurd (List.length_eq_zero_iff.1 h0) hl
  · exact ⟨g, cap, cur, rfl, hb, hh, hn, hc, hsz, hx⟩
theorem row_cell {w : World} {g : Nat} {cur : Array Value} {l : List Cell} (hh : w.heap[g]? = some (.cells cur 152 (0, 0))) (hx : cur.toList.take (l.length * 4) = flatC l) (t : Nat) (ht : t < l.length * 4) :
    w.cell? ⟨g, t, none⟩ = some ((cellVs (l[t / 4]!))[t % 4]!) := by
  have h1 : (cur.toList.take (l.length * 4))[t]? = (flatC l)[t]? := by rw [hx]
  rw [List.getElem?_take_of_lt ht, flatC_get l t ht, Array.getElem?_toList] at h1
  rw [cell_in, hh]
  simp [cellIn, h1]
theorem holdsC {w : World} {g : Nat} {cur : Array Value} {l : List Cell} (hh : w.heap[g]? = some (.cells cur 152 (0, 0))) (hx : cur.toList.take (l.length * 4) = flatC l) : Go.Sort.HoldsK cellVs 4 w g 0 l.toArray := by
  intro t ht
  have ht' : t < l.length * 4 := by simpa using ht
  refine ⟨?_, by simp [World.frozen?, hh]⟩
  rw [Nat.zero_add, row_cell hh hx t ht', Go.Sort.get_flatK _ _ _ _ (by simpa using ht')]
  simp
theorem heap_sortedC {w : World} {g n : Nat} {os : Array Obj} {cur : Array Value} {e : TypeId} {fr : Nat × Nat} (d : Array Cell) (hb : w.heap[g]? = some (.cells cur e fr)) :
    (sortWorldK cellVs 4 w g 0 n d os).heap[g]? = some (.cells (Go.Sort.putCells id 0 (Go.Sort.flatK cellVs 4 d) cur) e fr) := by
  have hg : g < w.heap.size := (Array.getElem?_eq_some_iff.1 hb).1
  unfold sortWorldK Go.Sort.putRowK
  rw [Go.Sort.heap_grow_old _ _ (by simpa using hg)]
  simp [Go.Sort.putRow, Go.Sort.mapBlock, Go.Sort.ahead, Array.getElem?_modify, hb, Go.Sort.onCells]
theorem grownBy_sortedC {w : World} {g n : Nat} {os : Array Obj} (d : Array Cell) : w.grownBy (sortWorldK cellVs 4 w g 0 n d os) (some g) := by
  unfold sortWorldK Go.Sort.putRowK
  refine ⟨rfl, rfl, rfl, by simp, fun k hk hne => ?_⟩
  rw [Go.Sort.heap_grow_old _ _ (by simpa using hk)]
  have : g ≠ k := fun e => hne (by rw [e])
  simp [Go.Sort.putRow, Go.Sort.mapBlock, Go.Sort.ahead, Array.getElem?_modify, this]
theorem take_putC (cur : Array Value) (l : List Cell) (h : l.length * 4 ≤ cur.size) : (Go.Sort.putCells id 0 (Go.Sort.flatK cellVs 4 l.toArray) cur).toList.take (l.length * 4) = flatC l := by
  apply List.ext_getElem?
  intro j
  by_cases hj : j < l.length * 4
  · rw [List.getElem?_take_of_lt hj, Array.getElem?_toList, ← flatK_get l j hj]
    have hs : j < (Go.Sort.flatK cellVs 4 l.toArray).size := by simpa using hj
    rw [Array.getElem?_eq_getElem hs]
    simp [Go.Sort.putCells, hj, show j < cur.size by omega]
  · rw [List.getElem?_take_eq_none (by omega), List.getElem?_eq_none (by rw [flatC_length]; omega)]
theorem ownsCl_sorted {w : World} {base g cap n : Nat} {os : Array Obj} {cur : Array Value} {l m : List Cell} (hl : m.length = l.length) (hbase : base ≤ g) (hb : w.heap[g]? = some (.cells cur 152 (0, 0)))
    (h1 : l.length ≤ cap) (h2 : cap ≤ maxLen) (h3 : cur.size = cap * 4) : ownsCl (sortWorldK cellVs 4 w g 0 n m.toArray os) base (.slice (some ⟨g, 0, none⟩) l.length cap) m :=
  ⟨flatC_length m, .inr ⟨g, cap, _, by rw [hl], hbase, heap_sortedC _ hb, by omega, h2, by simp [Go.Sort.putCells, h3], take_putC cur m (by omega)⟩⟩
section
variable {ops : Array Oper} {rest : List Oper} {o : Oper} {a : Act} {w : World} {Q : Exit → Act → World → Prop}
/-- 'append(v, c)'. -/
theorem append_cell (base : Nat) (v : Value) (l : List Cell) (c : Cell) (s x : Operand) (cp : Nat)
    (ho : o.op = .call { callee := .builtin .append, args := #[s, x], argTypes := #[27, 27] }) (hgd : o.guard = none) (hs : a.eval s = v)
    (hx : a.eval x = .slice (some ⟨w.heap.size, 0, none⟩) 1 cp) (hown : ownsCl w base v l) (hlen : l.length ≤ 1099511627776) (hbase : base ≤ w.heap.size)
    (h : ∀ v' w', ownsCl w' base v' (l ++ [c]) → w.grownBy w' v.ownBlock → v' ≠ .slice none 0 0 → wpList Tryz.prog ops Q rest (a.put o.dst v') w') :
    wpList Tryz.prog ops Q (o :: rest) a (w.alloc (.cells #[.string c.table, .string c.row, .string c.subject, .string c.value] 152)) := by
  obtain ⟨i0, hi, hz0, hz1, hz2⟩ := info_parts infoC
  refine wpList_append_own_at _ hgd s x 27 ho base 152 i0 (.agg (cellA zeroC)) 4 64 Tryz.underlying27 hi hz0 hz1 hz2 rfl (by decide) v l.length (flatC l) hs (World.ownsRow.alloc hown _)
    ⟨w.heap.size, 0, none⟩ 1 cp (cellVs c) hx rfl ?_ (by intro u hu; simp [cellVs] at hu; rcases hu with rfl | rfl | rfl | rfl <;> rfl) (by unfold maxLen; omega) (by omega) (by simp; omega) ?_
  · intro j u hj
    have hadd : (⟨w.heap.size, 0, none⟩ : Addr).add j = ⟨w.heap.size, j, none⟩ := by unfold Addr.add; split <;> simp_all
    rw [hadd, World.cell?_alloc_new, show #[Value.string c.table, .string c.row, .string c.subject, .string c.value] = (cellVs c).toArray from rfl, List.getElem?_toArray]
    exact hj
  · intro v' w' h1 h2 h3 _
    refine h v' w' ?_ ((World.grownBy_alloc w _ _).trans h2) (fun e => by have := (h3.1 e).2; omega)
    unfold ownsCl
    rw [flatC_append, List.length_append]
    exact h1
end
end Go.Proofs.YtnkmckdefiblhaaGreatDoor
