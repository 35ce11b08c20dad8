/- slices.ContainsFunc, slices.Contains at events and rows. · Rows of the call's own: stored into, cleared, cloned. -/
import Derived.Test.YtejbeokikpoheaaGreatDoorProg
import Derived.Test.YtejbeokikpoheaaGreatDoorG28
import Derived.Test.YtejbeokikpoheaaGreatDoorG29
import Derived.Laws.StructEq
import Derived.Lib.FrozenHead
import Derived.Lib.SliceRun
namespace Go.Proofs.YtejbeokikpoheaaGreatDoor
open Go.RowKit Go.Shelf Go.Lib

theorem isAggE (w : World) : (isAgg 31).run Tryz.prog w = .ok true w := by kernel_rfl
theorem sizeOfE (w : World) : (Go.sizeOf 31).run Tryz.prog w = .ok 5 w := by kernel_rfl
set_option maxRecDepth 100000 in
theorem idxE_none (q : Option Addr) (f : Value) (cp : Nat) (w : World) : Calls Tryz.prog 24 #[.slice q 0 cp, f] w fun e w' => e = .returned (.int .i64 (-1)) ∧ w' = w := by
  go_enter Tryz.func24, Tryz.ntmps24
  go_wp2
  refine wp_loop_rounds 1 ?_
  rw [rounds_succ]
  go_wp2_with fail
  go_ret
  exact ⟨rfl, rfl⟩
set_option maxRecDepth 100000 in
theorem anyE_none (q : Option Addr) (f : Value) (cp : Nat) (w : World) : Calls Tryz.prog 11 #[.slice q 0 cp, f] w fun e w' => e = .returned (.bool false) ∧ w' = w := by
  go_enter Tryz.func11, Tryz.ntmps11
  go_wp2_with fail
  refine (idxE_none _ _ _ _).mono ?_
  rintro _ w2 ⟨rfl, rfl⟩
  go_wp2_with fail
  go_ret
  exact ⟨rfl, rfl⟩
/-- Whether any event is such a one: of those of a kind. -/
theorem anyE_any {α : Type} [Inhabited α] (val : α → Ev) (p : α → Bool) (g : Nat) (lb : Array Value) (eg : ∀ args w, (callFunc g args).run Tryz.prog w = .ok (.enter g args) w) (q : Option Addr) (cp : Nat) (l : List α) (w : World)
    (hp : PredBelow Tryz.prog g lb (fun x => .agg (evVs (val x)).toArray) p w) (hl : l.length ≤ 9223372036854775807) (he : evsAt w q (l.map val)) :
    Calls Tryz.prog 11 #[.slice q l.length cp, .func (.func g) #[] lb] w fun e w' => e = .returned (.bool (l.any p)) ∧ ∃ x, w' = ext w x := by
  rcases he with he | ⟨b, o, rfl, hb, hc⟩
  · have : l = [] := List.map_eq_nil_iff.1 he
    subst this
    exact (anyE_none q _ cp w).mono fun e w' ⟨h1, h2⟩ => ⟨h1, by rw [h2]; exact ext_refl w⟩
  · have h := AnyQ.slices_ContainsFunc Tryz.anyEvent 5 isAggE sizeOfE (fun x => evVs (val x)) (fun _ => rfl) p g lb eg b o l.length cp l w hp (Nat.le_refl _) hl hb (fun j hj i v hi => by
      refine hc j (val l[j]!) ?_ i v hi
      rw [List.getElem?_map, List.getElem?_eq_getElem hj]
      simp [hj])
    rw [List.take_length] at h
    exact h.mono fun e w' ⟨h1, h2⟩ => ⟨h1, ext_of h2⟩
/-- Rows in memory. -/
def cellsIn (w : World) (q : Option Addr) (l : List Cell) : Prop :=
  l = [] ∨ ∃ g, q = some ⟨g, 0, none⟩ ∧ g < w.heap.size ∧ ∀ j, j < l.length → ∀ i v, (cellVs l[j]!)[i]? = some v → w.cell? ⟨g, 0 + j * 4 + i, none⟩ = some v
theorem cellsIn_of {w : World} {base : Nat} {q : Option Addr} {m cap : Nat} {l : List Cell} (h : ownsCl w base (.slice q m cap) l) : cellsIn w q l ∧ m = l.length := by
  by_cases e : l = []
  · subst e
    refine ⟨.inl rfl, ?_⟩
    obtain ⟨_, ⟨h1, _⟩ | ⟨g, cap', cur, h1, _⟩⟩ := h
    · cases h1; rfl
    · cases h1; rfl
  · obtain ⟨g, cap', cur, hv, _, hh, _, _, _, hx⟩ := ownsCl_form h e
    cases hv
    refine ⟨.inr ⟨g, rfl, lt_of_heap hh, fun j hj i v hi => ?_⟩, rfl⟩
    have hi4 : i < 4 := by have := (List.getElem?_eq_some_iff.1 hi).1; simpa [cellVs] using this
    have := row_cell hh hx (0 + j * 4 + i) (by omega)
    rw [this]
    have h0 : (0 + j * 4 + i) / 4 = j := by omega
    have h1 : (0 + j * 4 + i) % 4 = i := by omega
    rw [h0, h1, getElem!_def, hi]
def cellEq (c d : Cell) : Bool := c.table.toList == d.table.toList && c.row.toList == d.row.toList && c.subject.toList == d.subject.toList && c.value.toList == d.value.toList
theorem cellEq_iff {c d : Cell} : cellEq c d = true ↔ c = d := by
  unfold cellEq
  simp only [ByteArray.toList_eq, Bool.and_eq_true, beq_iff_eq]
  constructor
  · rintro ⟨⟨⟨h1, h2⟩, h3⟩, h4⟩
    exact cell_ext (Prod.ext h1 h2) h3 h4
  · rintro rfl; simp
theorem eqC : EqlAt Tryz.prog 85 (fun x => .agg (cellVs x).toArray) cellEq := by
  refine ⟨fun x y w => ?_, GuardAt.agg _ (by kernel_rfl)⟩
  have u9 := Tryz.underlying9
  have a9 := Tryz.isAgg9
  have z9 := Tryz.sizeOf9
  have hS : Tryz.prog.underlying 85 = some (.struct (Tryz.prog.fieldsOf 85)) := by kernel_rfl
  have hp : Tryz.prog.stoodInHeld 85 = false := by kernel_rfl
  simp only [cellVs]
  rw [run_eql_struct, show (10000 : Nat) = 9999 + 1 from rfl, run_equalIn_agg w 9999 85 _ _ hS hp]
  simp only [Program.fieldsOf, Tryz.underlying85]
  unfold cellEq
  go_simp
  by_cases h1 : x.table.toList = y.table.toList <;> by_cases h2 : x.row.toList = y.row.toList <;> by_cases h3 : x.subject.toList = y.subject.toList <;> by_cases h4 : x.value.toList = y.value.toList <;> simp [h1, h2, h3, h4]
end Go.Proofs.YtejbeokikpoheaaGreatDoor
namespace Go.Proofs.YtejbeokikpoheaaGreatDoor
open Go.RowKit Go.Shelf

theorem flatC_take : ∀ (l : List Cell) (i : Nat), (flatC l).take (i * 4) = flatC (l.take i)
  | [], i => by simp [flatC]
  | c :: l, 0 => by simp [flatC]
  | c :: l, i + 1 => by
    have h : flatC (c :: l) = cellVs c ++ flatC l := rfl
    have h' : flatC (c :: l.take i) = cellVs c ++ flatC (l.take i) := rfl
    have hl : (cellVs c).length = 4 := rfl
    rw [List.take_succ_cons, h, h', List.take_append, hl, show (i + 1) * 4 - 4 = i * 4 by omega, flatC_take l i, List.take_of_length_le (by rw [hl]; omega)]
theorem flatC_drop : ∀ (l : List Cell) (i : Nat), (flatC l).drop (i * 4) = flatC (l.drop i)
  | [], i => by simp [flatC]
  | c :: l, 0 => by simp
  | c :: l, i + 1 => by
    have h : flatC (c :: l) = cellVs c ++ flatC l := rfl
    have hl : (cellVs c).length = 4 := rfl
    rw [List.drop_succ_cons, h, List.drop_append, hl, show (i + 1) * 4 - 4 = i * 4 by omega, flatC_drop l i, List.drop_eq_nil_of_le (by rw [hl]; omega), List.nil_append]
theorem flatC_one (l : List Cell) : ∀ v ∈ flatC l, v.oneCell' = true := by
  intro v hv
  obtain ⟨c, _, hc⟩ := List.mem_flatMap.1 hv
  simp [cellVs] at hc
  rcases hc with rfl | rfl | rfl | rfl <;> rfl
theorem grownC_setRow (w : World) (g : Nat) (cs : Array Value) : w.grownBy (w.setRow g cs) (some g) :=
  ⟨rfl, rfl, rfl, by simp, fun k _ hk => setRow_other w g k _ (fun e => hk (by rw [e]))⟩
/-- Rows M laid from row i on. -/
theorem stores_rows {w : World} {base g n cap : Nat} {l M : List Cell} (h : ownsCl w base (.slice (some ⟨g, 0, none⟩) n cap) l) (i : Nat) (hi : i + M.length ≤ l.length) (h0 : 0 < l.length) :
    ∃ w', (storeCells ⟨g, i * 4, none⟩ (flatC M) 0).run Tryz.prog w = .ok () w' ∧ ownsCl w' base (.slice (some ⟨g, 0, none⟩) n cap) (l.take i ++ M ++ l.drop (i + M.length)) ∧ w.grownBy w' (some g) := by
  obtain ⟨g', cap', cur, hv, hb, hh, h1, h2, h3, h4⟩ := ownsCl_form h (by intro e; rw [e] at h0; cases h0)
  cases hv
  have hlen := flatC_length M
  have hr := run_storeCells_atF Tryz.prog g (i * 4) 85 (0, 0) (flatC M) 0 cur w hh (Nat.zero_le _) (by rw [hlen, h3]; have : (i + M.length) * 4 ≤ cap * 4 := Nat.mul_le_mul_right _ (by omega); omega) (flatC_one M)
  rw [Nat.add_zero, hlen] at hr
  have hll : (l.take i ++ M ++ l.drop (i + M.length)).length = l.length := by simp; omega
  have hcl : l.length * 4 ≤ cur.size := by rw [h3]; omega
  refine ⟨_, hr, ?_, grownC_setRow w g _⟩
  unfold ownsCl World.ownsRow
  refine ⟨by rw [flatC_length], .inr ⟨g, cap, _, by rw [hll], hb, setRow_heap w g cur _ _ _ hh, by rw [hll]; exact h1, h2, ?_, ?_⟩⟩
  · simp only [List.size_toArray, List.length_append, List.length_take, List.length_drop, Array.length_toList, hlen]
    omega
  · rw [hll, flatC_append, flatC_append, ← flatC_take, ← flatC_drop, ← h4]
    have e1 : i * 4 + M.length * 4 ≤ l.length * 4 := by omega
    rw [List.take_append, List.take_append, List.take_of_length_le (by simp; omega), List.take_take, Nat.min_eq_left (by omega), List.drop_take, List.take_of_length_le (l := flatC M) (by rw [hlen]; simp; omega)]
    congr 1
    rw [show (i + M.length) * 4 = i * 4 + M.length * 4 by omega]
    simp only [List.length_append, List.length_take, hlen, Array.length_toList]
    congr 1
    omega
/-- 'clear(s[i:])'. -/
theorem clear_rows {base g n cap i m c : Nat} {l : List Cell} {w : World} (h : ownsCl w base (.slice (some ⟨g, 0, none⟩) n cap) l) (hi : i < l.length) (hm : m = l.length - i) :
    ∃ w', (∀ ty, (Builtin.clear_ #[59] ty #[.slice (some ⟨g, i * 4, none⟩) m c]).run Tryz.prog w = .ok (.tuple #[]) w') ∧ ownsCl w' base (.slice (some ⟨g, 0, none⟩) n cap) (l.take i ++ List.replicate m zeroC) ∧ w.grownBy w' (some g) := by
  obtain ⟨w', hr, h1, h2⟩ := stores_rows (M := List.replicate m zeroC) h i (by simp; omega) (by omega)
  rw [List.length_replicate, List.drop_eq_nil_of_le (by omega), List.append_nil] at h1
  have hz : ∀ k, (Builtin.zeroCells (cellA zeroC) k).toList = flatC (List.replicate k zeroC) := by
    intro k
    refine List.ext_getElem? fun j => ?_
    by_cases hj : j < k * 4
    · rw [flatC_get _ _ (by simpa using hj), Array.getElem?_toList]
      have hs : j < (Builtin.zeroCells (cellA zeroC) k).size := by rw [size_zeroCells]; simpa [cellA] using hj
      rw [Array.getElem?_eq_getElem hs]
      have h4 : j / 4 < k := by omega
      have hr : (List.replicate k zeroC)[j / 4]! = zeroC := by rw [getElem!_pos _ _ (by simpa using h4)]; simp
      rw [hr]
      unfold Builtin.zeroCells
      simp [cellA]
      have h5 : j % 4 < 4 := Nat.mod_lt _ (by decide)
      simp [cellVs]
    · rw [List.getElem?_eq_none (by rw [Array.length_toList, size_zeroCells]; simp [cellA]; omega), List.getElem?_eq_none (by rw [flatC_length]; simp; omega)]
  have hv : ∀ w, (zeroValue 85).run Tryz.prog w = .ok (.agg (cellA zeroC)) w := by
    intro w; kernel_rfl
  obtain ⟨m', rfl⟩ : ∃ m', m = m' + 1 := ⟨m - 1, by omega⟩
  refine ⟨w', fun ty => ?_, h1, h2⟩
  have ht : Tryz.prog.underlying 59 = some (.slice 85) := Tryz.underlying59
  simp [Builtin.clear_, run_underlying ht, hv, Value.cells, hz, hr]
section
variable {ops : Array Oper} {rest : List Oper} {o : Oper} {a : Act} {w : World} {Q : Exit → Act → World → Prop}
/-- 's[i] = c'. -/
theorem store_row {base g n cap i : Nat} {l : List Cell} (c : Cell) (ad x : Operand) (hg : o.guard = none) (hop : o.op = Op.store 85 ad x) (ha : a.eval ad = .pointer (some ⟨g, i * 4, none⟩)) (hx : a.eval x = .agg (cellA c))
    (h : ownsCl w base (.slice (some ⟨g, 0, none⟩) n cap) l) (hi : i < l.length)
    (hK : ∀ w', ownsCl w' base (.slice (some ⟨g, 0, none⟩) n cap) (l.take i ++ [c] ++ l.drop (i + 1)) → w.grownBy w' (some g) → wpList Tryz.prog ops Q rest (a.put o.dst undef) w') :
    wpList Tryz.prog ops Q (o :: rest) a w := by
  obtain ⟨w', hr, h1, h2⟩ := stores_rows (M := [c]) h i (by simp; omega) (by omega)
  have hf : flatC [c] = cellVs c := by simp [flatC]
  rw [hf] at hr
  have hst : (Instr.storeAt 85 (.pointer (some ⟨g, i * 4, none⟩)) (.agg (cellA c))).run Tryz.prog w = .ok () w' := by
    have hz := Tryz.sizeOf85
    have hc : (cellA c).toList = cellVs c := rfl
    have hs : (cellA c).size = 4 := rfl
    simp [Instr.storeAt, Instr.sureAddr, storeVar, Value.cells, hz, hs, hc, hr, Result.andThen]
  refine wpList_plain hg fun K' hK' => ?_
  unfold Oper.wp
  simp [execOp, hop, ha, hx, hst, Result.andThen]
  exact hK' _ _ (hK w' h1 h2)
/-- 'append([]Cell{}, l...)'. -/
theorem append_rows (base : Nat) (v : Value) (s x : Operand) (l : List Cell) (ad : Addr) (c : Nat)
    (ho : o.op = .call { callee := .builtin .append, args := #[s, x], argTypes := #[59, 59] }) (hgd : o.guard = none) (hs : a.eval s = v) (hx : a.eval x = .slice (some ad) l.length c)
    (hown : ownsCl w base v []) (hc : ∀ j u, (flatC l)[j]? = some u → w.cell? (ad.add j) = some u) (hlen : l.length ≤ 1099511627776) (hbase : base ≤ w.heap.size)
    (h : ∀ v' w', ownsCl w' base v' l → w.grownBy w' v.ownBlock → wpList Tryz.prog ops Q rest (a.put o.dst v') w') :
    wpList Tryz.prog ops Q (o :: rest) a w := by
  obtain ⟨i0, hi, hz0, hz1, hz2⟩ := info_parts infoC
  refine wpList_append_own_at _ hgd s x 59 ho base 85 i0 (.agg (cellA zeroC)) 4 64 Tryz.underlying59 hi hz0 hz1 hz2 rfl (by decide) v 0 (flatC []) hs hown
    ad l.length c (flatC l) hx (flatC_length l) hc (flatC_one l) (by unfold maxLen; omega) (by omega) hbase ?_
  intro v' w' h1 h2 _ _
  refine h v' w' ?_ h2
  unfold ownsCl
  rw [Nat.zero_add] at h1
  exact h1
end
theorem get_some (L : List Value) (t : Nat) (h : t < L.length) : L[t]? = some L[t]! := by rw [List.getElem?_eq_getElem h, getElem!_pos L t h]
end Go.Proofs.YtejbeokikpoheaaGreatDoor
