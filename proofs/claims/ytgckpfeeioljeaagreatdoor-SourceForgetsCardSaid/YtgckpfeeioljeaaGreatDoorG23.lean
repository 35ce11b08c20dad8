/- Rows of the call's own: stored into, cleared, cloned. · slices.Clone at records and at events. -/
import Derived.Test.YtgckpfeeioljeaaGreatDoorProg
import Derived.Test.YtgckpfeeioljeaaGreatDoorG22
import Derived.Lib.FrozenHead
import Derived.Lib.SliceRun
import Derived.Test.YtgckpfeeioljeaaGreatDoorG20
import Derived.Test.YtgckpfeeioljeaaGreatDoorG21
namespace Go.Proofs.YtgckpfeeioljeaaGreatDoor
open Go.RowKit Go.Shelf

theorem flatC_take : ∀ (l : List Cell) (i : Nat), (flatC l).take (i * 4) = flatC (l.take i)
  | [], i => by simp [flatC]
  | c :: l, 0 => by simp [flatC]
  | c :: l, i + 1 => by
    have h : flatC (c :: l) = cellVs c ++ flatC l := rfl
    have h' : flatC (c :: l.take i) = cellVs c ++ flatC (l.take i) := rfl
    have hl : (cellVs c).length = 4 := rfl
    rw [List.take_succ_cons, h, h', List.take_append, hl, show (i + 1) * 4 - 4 = i * 4 by omega, flatC_take l i, List.take_of_length_le (by rw [hl]; omega)]
theorem flatC_drop : ∀ (l : List Cell) (i : Nat), (flatC l).drop (i * 4) = flatC (l.drop i)
  | [], i => by simp [flatC]
  | c :: l, 0 => by simp
  | c :: l, i + 1 => by
    have h : flatC (c :: l) = cellVs c ++ flatC l := rfl
    have hl : (cellVs c).length = 4 := rfl
    rw [List.drop_succ_cons, h, List.drop_append, hl, show (i + 1) * 4 - 4 = i * 4 by omega, flatC_drop l i, List.drop_eq_nil_of_le (by rw [hl]; omega), List.nil_append]
theorem flatC_one (l : List Cell) : ∀ v ∈ flatC l, v.oneCell' = true := by
  intro v hv
  obtain ⟨c, _, hc⟩ := List.mem_flatMap.1 hv
  simp [cellVs] at hc
  rcases hc with rfl | rfl | rfl | rfl <;> rfl
theorem grownC_setRow (w : World) (g : Nat) (cs : Array Value) : w.grownBy (w.setRow g cs) (some g) :=
  ⟨rfl, rfl, rfl, by simp, fun k _ hk => setRow_other w g k _ (fun e => hk (by rw [e]))⟩
/-- Rows M laid from row i on. -/
theorem stores_rows {w : World} {base g n cap : Nat} {l M : List Cell} (h : ownsCl w base (.slice (some ⟨g, 0, none⟩) n cap) l) (i : Nat) (hi : i + M.length ≤ l.length) (h0 : 0 < l.length) :
    ∃ w', (storeCells ⟨g, i * 4, none⟩ (flatC M) 0).run Tryz.prog w = .ok () w' ∧ ownsCl w' base (.slice (some ⟨g, 0, none⟩) n cap) (l.take i ++ M ++ l.drop (i + M.length)) ∧ w.grownBy w' (some g) := by
  obtain ⟨g', cap', cur, hv, hb, hh, h1, h2, h3, h4⟩ := ownsCl_form h (by intro e; rw [e] at h0; cases h0)
  cases hv
  have hlen := flatC_length M
  have hr := run_storeCells_atF Tryz.prog g (i * 4) 43 (0, 0) (flatC M) 0 cur w hh (Nat.zero_le _) (by rw [hlen, h3]; have : (i + M.length) * 4 ≤ cap * 4 := Nat.mul_le_mul_right _ (by omega); omega) (flatC_one M)
  rw [Nat.add_zero, hlen] at hr
  have hll : (l.take i ++ M ++ l.drop (i + M.length)).length = l.length := by simp; omega
  have hcl : l.length * 4 ≤ cur.size := by rw [h3]; omega
  refine ⟨_, hr, ?_, grownC_setRow w g _⟩
  unfold ownsCl World.ownsRow
  refine ⟨by rw [flatC_length], .inr ⟨g, cap, _, by rw [hll], hb, setRow_heap w g cur _ _ _ hh, by rw [hll]; exact h1, h2, ?_, ?_⟩⟩
  · simp only [List.size_toArray, List.length_append, List.length_take, List.length_drop, Array.length_toList, hlen]
    omega
  · rw [hll, flatC_append, flatC_append, ← flatC_take, ← flatC_drop, ← h4]
    have e1 : i * 4 + M.length * 4 ≤ l.length * 4 := by omega
    rw [List.take_append, List.take_append, List.take_of_length_le (by simp; omega), List.take_take, Nat.min_eq_left (by omega), List.drop_take, List.take_of_length_le (l := flatC M) (by rw [hlen]; simp; omega)]
    congr 1
    rw [show (i + M.length) * 4 = i * 4 + M.length * 4 by omega]
    simp only [List.length_append, List.length_take, hlen, Array.length_toList]
    congr 1
    omega
/-- 'clear(s[i:])'. -/
theorem clear_rows {base g n cap i m c : Nat} {l : List Cell} {w : World} (h : ownsCl w base (.slice (some ⟨g, 0, none⟩) n cap) l) (hi : i < l.length) (hm : m = l.length - i) :
    ∃ w', (∀ ty, (Builtin.clear_ #[41] ty #[.slice (some ⟨g, i * 4, none⟩) m c]).run Tryz.prog w = .ok (.tuple #[]) w') ∧ ownsCl w' base (.slice (some ⟨g, 0, none⟩) n cap) (l.take i ++ List.replicate m zeroC) ∧ w.grownBy w' (some g) := by
  obtain ⟨w', hr, h1, h2⟩ := stores_rows (M := List.replicate m zeroC) h i (by simp; omega) (by omega)
  rw [List.length_replicate, List.drop_eq_nil_of_le (by omega), List.append_nil] at h1
  have hz : ∀ k, (Builtin.zeroCells (cellA zeroC) k).toList = flatC (List.replicate k zeroC) := by
    intro k
    refine List.ext_getElem? fun j => ?_
    by_cases hj : j < k * 4
    · rw [flatC_get _ _ (by simpa using hj), Array.getElem?_toList]
      have hs : j < (Builtin.zeroCells (cellA zeroC) k).size := by rw [size_zeroCells]; simpa [cellA] using hj
      rw [Array.getElem?_eq_getElem hs]
      have h4 : j / 4 < k := by omega
      have hr : (List.replicate k zeroC)[j / 4]! = zeroC := by rw [getElem!_pos _ _ (by simpa using h4)]; simp
      rw [hr]
      unfold Builtin.zeroCells
      simp [cellA]
      have h5 : j % 4 < 4 := Nat.mod_lt _ (by decide)
      simp [cellVs]
    · rw [List.getElem?_eq_none (by rw [Array.length_toList, size_zeroCells]; simp [cellA]; omega), List.getElem?_eq_none (by rw [flatC_length]; simp; omega)]
  have hv : ∀ w, (zeroValue 43).run Tryz.prog w = .ok (.agg (cellA zeroC)) w := by
    intro w; kernel_rfl
  obtain ⟨m', rfl⟩ : ∃ m', m = m' + 1 := ⟨m - 1, by omega⟩
  refine ⟨w', fun ty => ?_, h1, h2⟩
  have ht : Tryz.prog.underlying 41 = some (.slice 43) := Tryz.underlying41
  simp [Builtin.clear_, run_underlying ht, hv, Value.cells, hz, hr]
section
variable {ops : Array Oper} {rest : List Oper} {o : Oper} {a : Act} {w : World} {Q : Exit → Act → World → Prop}
/-- 's[i] = c'. -/
theorem store_row {base g n cap i : Nat} {l : List Cell} (c : Cell) (ad x : Operand) (hg : o.guard = none) (hop : o.op = Op.store 43 ad x) (ha : a.eval ad = .pointer (some ⟨g, i * 4, none⟩)) (hx : a.eval x = .agg (cellA c))
    (h : ownsCl w base (.slice (some ⟨g, 0, none⟩) n cap) l) (hi : i < l.length)
    (hK : ∀ w', ownsCl w' base (.slice (some ⟨g, 0, none⟩) n cap) (l.take i ++ [c] ++ l.drop (i + 1)) → w.grownBy w' (some g) → wpList Tryz.prog ops Q rest (a.put o.dst undef) w') :
    wpList Tryz.prog ops Q (o :: rest) a w := by
  obtain ⟨w', hr, h1, h2⟩ := stores_rows (M := [c]) h i (by simp; omega) (by omega)
  have hf : flatC [c] = cellVs c := by simp [flatC]
  rw [hf] at hr
  have hst : (Instr.storeAt 43 (.pointer (some ⟨g, i * 4, none⟩)) (.agg (cellA c))).run Tryz.prog w = .ok () w' := by
    have hz := Tryz.sizeOf43
    have hc : (cellA c).toList = cellVs c := rfl
    have hs : (cellA c).size = 4 := rfl
    simp [Instr.storeAt, Instr.sureAddr, storeVar, Value.cells, hz, hs, hc, hr, Result.andThen]
  refine wpList_plain hg fun K' hK' => ?_
  unfold Oper.wp
  simp [execOp, hop, ha, hx, hst, Result.andThen]
  exact hK' _ _ (hK w' h1 h2)
/-- 'append([]Cell{}, l...)'. -/
theorem append_rows (base : Nat) (v : Value) (s x : Operand) (l : List Cell) (ad : Addr) (c : Nat)
    (ho : o.op = .call { callee := .builtin .append, args := #[s, x], argTypes := #[41, 41] }) (hgd : o.guard = none) (hs : a.eval s = v) (hx : a.eval x = .slice (some ad) l.length c)
    (hown : ownsCl w base v []) (hc : ∀ j u, (flatC l)[j]? = some u → w.cell? (ad.add j) = some u) (hlen : l.length ≤ 1099511627776) (hbase : base ≤ w.heap.size)
    (h : ∀ v' w', ownsCl w' base v' l → w.grownBy w' v.ownBlock → wpList Tryz.prog ops Q rest (a.put o.dst v') w') :
    wpList Tryz.prog ops Q (o :: rest) a w := by
  obtain ⟨i0, hi, hz0, hz1, hz2⟩ := info_parts infoC
  refine wpList_append_own_at _ hgd s x 41 ho base 43 i0 (.agg (cellA zeroC)) 4 64 Tryz.underlying41 hi hz0 hz1 hz2 rfl (by decide) v 0 (flatC []) hs hown
    ad l.length c (flatC l) hx (flatC_length l) hc (flatC_one l) (by unfold maxLen; omega) (by omega) hbase ?_
  intro v' w' h1 h2 _ _
  refine h v' w' ?_ h2
  unfold ownsCl
  rw [Nat.zero_add] at h1
  exact h1
end
theorem get_some (L : List Value) (t : Nat) (h : t < L.length) : L[t]? = some L[t]! := by rw [List.getElem?_eq_getElem h, getElem!_pos L t h]
set_option maxRecDepth 100000 in
/-- slices.Clone at rows. -/
theorem clone_any (q : Option Addr) (cp : Nat) (l : List Cell) (w : World) (h : cellsIn w q l) (hl : l.length ≤ 1099511627776) :
    Calls Tryz.prog 34 #[.slice q l.length cp] w fun r w' => ∃ v, r = .returned v ∧ ownsCl w' w.heap.size v l ∧ Below w.heap.size w w' := by
  cases q with
  | none =>
    have h0 : l = [] := by
      rcases h with h | ⟨g, hq, _⟩
      · exact h
      · cases hq
    subst h0
    clear h hl
    have q22 : ∀ (w : World) (a : Option Addr) (n c n' c' : Nat), (binOp .eql 41 (.slice a n c) (.slice none n' c')).run Tryz.prog w = .ok (.bool a.isNone) w := fun w a n c n' c' => Lib.run_eql_slice_nil w _ _ a n c n' c' Tryz.underlying41
    go_enter Tryz.func34, Tryz.ntmps34
    go_wp2_with fail
    go_ret
    exact ⟨_, rfl, ownsCl_nil _ _, Below.refl _ _⟩
  | some ad =>
    have hc : ∀ j u, (flatC l)[j]? = some u → (w.alloc (.cells #[] 43)).cell? (ad.add j) = some u := by
      intro j u hj
      have hjl := (List.getElem?_eq_some_iff.1 hj).1
      rw [flatC_length] at hjl
      rcases h with h | ⟨g, hq, hg, hc⟩
      · subst h; simp at hjl
      · cases hq
        rw [flatC_get l j hjl] at hj
        have h4 : j % 4 < 4 := Nat.mod_lt _ (by decide)
        have := hc (j / 4) (by omega) (j % 4) ((cellVs l[j / 4]!)[j % 4]!) (get_some _ _ (by simpa [cellVs] using h4))
        rw [show 0 + j / 4 * 4 + j % 4 = j by omega] at this
        rw [addr_add, Nat.zero_add, cell_in, heap_alloc_old _ _ hg, ← cell_in, this]
        exact hj
    have HC := Lib.hid hc
    have O0 : ownsCl (w.alloc (.cells #[] 43)) w.heap.size (.slice (some ⟨w.heap.size, 0, none⟩) 0 0) [] := ⟨rfl, .inr ⟨w.heap.size, 0, #[], rfl, Nat.le_refl _, heap_alloc_at _ _, Nat.le_refl _, Nat.zero_le _, rfl, rfl⟩⟩
    have O0 := Lib.hid O0
    have hsz : w.heap.size ≤ (w.alloc (.cells #[] 43)).heap.size := by simp
    have B0 := Lib.hid ((Below.refl w.heap.size w).alloc (Nat.le_refl _) (.cells #[] 43))
    clear hc h
    have q22 : ∀ (w : World) (a : Option Addr) (n c n' c' : Nat), (binOp .eql 41 (.slice a n c) (.slice none n' c')).run Tryz.prog w = .ok (.bool a.isNone) w := fun w a n c n' c' => Lib.run_eql_slice_nil w _ _ a n c n' c' Tryz.underlying41
    go_enter Tryz.func34, Tryz.ntmps34
    go_wp2_with (at_builtin; go_must (refine append_rows w.heap.size _ (.tmp 5) (.tmp 6) l ad cp rfl rfl rfl rfl O0.out HC.out hl hsz ?_); intro v' w' OWn g')
    go_ret
    exact ⟨_, rfl, OWn, B0.out.grown g' hsz (fun j hj => by cases hj; exact Nat.le_refl _)⟩
end Go.Proofs.YtgckpfeeioljeaaGreatDoor
namespace Go.Proofs.YtgckpfeeioljeaaGreatDoor
open Go.RowKit Go.Shelf

theorem flatRec_one (l : List Rec) : ∀ v ∈ flatRec l, v.oneCell' = true := by
  intro v hv
  obtain ⟨c, _, hv⟩ := List.mem_flatMap.1 hv
  simp [recVs] at hv
  rcases hv with rfl | rfl | rfl | rfl | rfl <;> rfl
theorem flatE_one (l : List Ev) : ∀ v ∈ flatE l, v.oneCell' = true := by
  intro v hv
  obtain ⟨c, _, hv⟩ := List.mem_flatMap.1 hv
  simp [evVs] at hv
  rcases hv with rfl | rfl | rfl | rfl | rfl <;> rfl
theorem flatRec_at (l : List Rec) (j : Nat) (u : Value) (h : (flatRec l)[j]? = some u) : ∃ x, l[j / 5]? = some x ∧ (recVs x)[j % 5]? = some u := by
  have hj := (List.getElem?_eq_some_iff.1 h).1
  rw [flatRec_length] at hj
  have hx := List.getElem?_eq_getElem (l := l) (i := j / 5) (by omega)
  refine ⟨_, hx, ?_⟩
  have h5 : j % 5 < (recVs l[j / 5]).length := by show j % 5 < 5; omega
  have := flatRec_get l (j / 5) _ hx (j % 5) _ (List.getElem?_eq_getElem h5)
  rw [show j / 5 * 5 + j % 5 = j by omega, h] at this
  rw [List.getElem?_eq_getElem h5]; exact this.symm
theorem flatE_at (l : List Ev) (j : Nat) (u : Value) (h : (flatE l)[j]? = some u) : ∃ x, l[j / 5]? = some x ∧ (evVs x)[j % 5]? = some u := by
  have hj := (List.getElem?_eq_some_iff.1 h).1
  rw [flatE_length] at hj
  have hx := List.getElem?_eq_getElem (l := l) (i := j / 5) (by omega)
  refine ⟨_, hx, ?_⟩
  have h5 : j % 5 < (evVs l[j / 5]).length := by show j % 5 < 5; omega
  have := flatE_get l (j / 5) _ hx (j % 5) _ (List.getElem?_eq_getElem h5)
  rw [show j / 5 * 5 + j % 5 = j by omega, h] at this
  rw [List.getElem?_eq_getElem h5]; exact this.symm
theorem recs_flat {w : World} {ad : Addr} {l : List Rec} (h : recsAt w (some ad) l) : ∀ j u, (flatRec l)[j]? = some u → ad.block < w.heap.size ∧ w.cell? (ad.add j) = some u := by
  intro j u hj
  obtain ⟨x, hx, hu⟩ := flatRec_at l j u hj
  rcases h with h | ⟨g, o, hq, hg, hc⟩
  · subst h; simp at hx
  · cases hq
    refine ⟨hg, ?_⟩
    rw [addr_add]
    have := hc (j / 5) x hx (j % 5) u hu
    rw [show o + j / 5 * 5 + j % 5 = o + j by omega] at this
    exact this
theorem evs_flat {w : World} {ad : Addr} {l : List Ev} (h : evsAt w (some ad) l) : ∀ j u, (flatE l)[j]? = some u → ad.block < w.heap.size ∧ w.cell? (ad.add j) = some u := by
  intro j u hj
  obtain ⟨x, hx, hu⟩ := flatE_at l j u hj
  rcases h with h | ⟨g, o, hq, hg, hc⟩
  · subst h; simp at hx
  · cases hq
    refine ⟨hg, ?_⟩
    rw [addr_add]
    have := hc (j / 5) x hx (j % 5) u hu
    rw [show o + j / 5 * 5 + j % 5 = o + j by omega] at this
    exact this
section
variable {ops : Array Oper} {rest : List Oper} {o : Oper} {a : Act} {w : World} {Q : Exit → Act → World → Prop}
/-- 'append(m, l...)' at records. -/
theorem append_recs (base : Nat) (v : Value) (s x : Operand) (m l : List Rec) (ad : Addr) (c : Nat)
    (ho : o.op = .call { callee := .builtin .append, args := #[s, x], argTypes := #[31, 31] }) (hgd : o.guard = none) (hs : a.eval s = v) (hx : a.eval x = .slice (some ad) l.length c)
    (hown : ownsRl w base v m) (hc : ∀ j u, (flatRec l)[j]? = some u → w.cell? (ad.add j) = some u) (hlen : m.length + l.length ≤ 1099511627776) (hbase : base ≤ w.heap.size)
    (h : ∀ v' w', ownsRl w' base v' (m ++ l) → w.grownBy w' v.ownBlock → wpList Tryz.prog ops Q rest (a.put o.dst v') w') :
    wpList Tryz.prog ops Q (o :: rest) a w := by
  obtain ⟨i0, hi, hz0, hz1, hz2⟩ := info_parts infoRec
  refine wpList_append_own_at _ hgd s x 31 ho base 55 i0 (.agg (recV zeroR)) 5 64 Tryz.underlying31 hi hz0 hz1 hz2 rfl (by decide) v m.length (flatRec m) hs hown
    ad l.length c (flatRec l) hx (flatRec_length l) hc (flatRec_one l) (by unfold maxLen; omega) (by omega) hbase ?_
  intro v' w' h1 h2 _ _
  refine h v' w' ?_ h2
  unfold ownsRl
  rw [flatRec_append, List.length_append]
  exact h1
/-- 'append(m, l...)' at events. -/
theorem append_evs (base : Nat) (v : Value) (s x : Operand) (m l : List Ev) (ad : Addr) (c : Nat)
    (ho : o.op = .call { callee := .builtin .append, args := #[s, x], argTypes := #[22, 22] }) (hgd : o.guard = none) (hs : a.eval s = v) (hx : a.eval x = .slice (some ad) l.length c)
    (hown : ownsEl w base v m) (hc : ∀ j u, (flatE l)[j]? = some u → w.cell? (ad.add j) = some u) (hlen : m.length + l.length ≤ 1099511627776) (hbase : base ≤ w.heap.size)
    (h : ∀ v' w', ownsEl w' base v' (m ++ l) → w.grownBy w' v.ownBlock → wpList Tryz.prog ops Q rest (a.put o.dst v') w') :
    wpList Tryz.prog ops Q (o :: rest) a w := by
  obtain ⟨i0, hi, hz0, hz1, hz2⟩ := info_parts infoE
  refine wpList_append_own_at _ hgd s x 22 ho base 51 i0 (.agg (evV ⟨0, ⟨#[]⟩, ⟨#[]⟩, ⟨#[]⟩, ⟨#[]⟩⟩)) 5 72 Tryz.underlying22 hi hz0 hz1 hz2 rfl (by decide) v m.length (flatE m) hs hown
    ad l.length c (flatE l) hx (flatE_length l) hc (flatE_one l) (by unfold maxLen; omega) (by omega) hbase ?_
  intro v' w' h1 h2 _ _
  refine h v' w' ?_ h2
  unfold ownsEl
  rw [flatE_append, List.length_append]
  exact h1
end
set_option maxRecDepth 100000 in
theorem cloneR_any (q : Option Addr) (cp : Nat) (l : List Rec) (w : World) (h : recsAt w q l) (hl : l.length ≤ 1048576) :
    Calls Tryz.prog 77 #[.slice q l.length cp] w fun r w' => ∃ v, r = .returned v ∧ ownsRl w' w.heap.size v l ∧ Below w.heap.size w w' := by
  have q22 : ∀ (w : World) (a : Option Addr) (n c n' c' : Nat), (binOp .eql 31 (.slice a n c) (.slice none n' c')).run Tryz.prog w = .ok (.bool a.isNone) w := fun w a n c n' c' => Lib.run_eql_slice_nil w _ _ a n c n' c' Tryz.underlying31
  cases q with
  | none =>
    have h0 : l = [] := by
      rcases h with h | ⟨g, o, hq, _⟩
      · exact h
      · cases hq
    subst h0
    clear h hl
    go_enter Tryz.func77, Tryz.ntmps77
    go_wp2_with fail
    go_ret
    exact ⟨_, rfl, ownsRl_nil _ _, Below.refl _ _⟩
  | some ad =>
    have hc : ∀ j u, (flatRec l)[j]? = some u → (w.alloc (.cells #[] 55)).cell? (ad.add j) = some u := fun j u hj => (recs_flat (recsAt_of h (fun k hk => heap_alloc_old _ _ hk) (by simp)) j u hj).2
    have HC := Lib.hid hc
    have O0 : ownsRl (w.alloc (.cells #[] 55)) w.heap.size (.slice (some ⟨w.heap.size, 0, none⟩) 0 0) [] := ⟨rfl, .inr ⟨w.heap.size, 0, #[], rfl, Nat.le_refl _, heap_alloc_at _ _, Nat.le_refl _, Nat.zero_le _, rfl, rfl⟩⟩
    have O0 := Lib.hid O0
    have hsz : w.heap.size ≤ (w.alloc (.cells #[] 55)).heap.size := by simp
    have B0 := Lib.hid ((Below.refl w.heap.size w).alloc (Nat.le_refl _) (.cells #[] 55))
    clear hc h
    go_enter Tryz.func77, Tryz.ntmps77
    go_wp2_with (at_builtin; go_must (refine append_recs w.heap.size _ (.tmp 5) (.tmp 6) [] l ad cp rfl rfl rfl rfl O0.out HC.out (by simp; omega) hsz ?_); intro v' w' OWn g')
    go_ret
    exact ⟨_, rfl, OWn, B0.out.grown g' hsz (fun j hj => by cases hj; exact Nat.le_refl _)⟩
end Go.Proofs.YtgckpfeeioljeaaGreatDoor
