/- slices.ContainsFunc, slices.Contains at events and rows. -/
import Derived.Test.YtjjadgcpmfmlfaaDoorProg
import Derived.Test.YtjjadgcpmfmlfaaDoorArgE
import Derived.Test.YtjjadgcpmfmlfaaDoorOwnC
import Derived.Laws.StructEq
namespace Go.Proofs.YtjjadgcpmfmlfaaDoor
open Go.RowKit Go.Shelf Go.Lib

theorem isAggE (w : World) : (isAgg 54).run Tryd.prog w = .ok true w := by kernel_rfl
theorem sizeOfE (w : World) : (Go.sizeOf 54).run Tryd.prog w = .ok 5 w := by kernel_rfl
set_option maxRecDepth 100000 in
theorem idxE_none (q : Option Addr) (f : Value) (cp : Nat) (w : World) : Calls Tryd.prog 100 #[.slice q 0 cp, f] w fun e w' => e = .returned (.int .i64 (-1)) ∧ w' = w := by
  go_enter Tryd.func100, Tryd.ntmps100
  go_wp2
  refine wp_loop_rounds 1 ?_
  rw [rounds_succ]
  go_wp2_with fail
  go_ret
  exact ⟨rfl, rfl⟩
set_option maxRecDepth 100000 in
theorem anyE_none (q : Option Addr) (f : Value) (cp : Nat) (w : World) : Calls Tryd.prog 58 #[.slice q 0 cp, f] w fun e w' => e = .returned (.bool false) ∧ w' = w := by
  go_enter Tryd.func58, Tryd.ntmps58
  go_wp2_with fail
  refine (idxE_none _ _ _ _).mono ?_
  rintro _ w2 ⟨rfl, rfl⟩
  go_wp2_with fail
  go_ret
  exact ⟨rfl, rfl⟩
set_option maxRecDepth 100000 in
theorem idxF_none (q : Option Addr) (f : Value) (cp : Nat) (w : World) : Calls Tryd.prog 102 #[.slice q 0 cp, f] w fun e w' => e = .returned (.int .i64 (-1)) ∧ w' = w := by
  go_enter Tryd.func102, Tryd.ntmps102
  go_wp2
  refine wp_loop_rounds 1 ?_
  rw [rounds_succ]
  go_wp2_with fail
  go_ret
  exact ⟨rfl, rfl⟩
set_option maxRecDepth 100000 in
theorem anyC_none (q : Option Addr) (f : Value) (cp : Nat) (w : World) : Calls Tryd.prog 63 #[.slice q 0 cp, f] w fun e w' => e = .returned (.bool false) ∧ w' = w := by
  go_enter Tryd.func63, Tryd.ntmps63
  go_wp2_with fail
  refine (idxF_none _ _ _ _).mono ?_
  rintro _ w2 ⟨rfl, rfl⟩
  go_wp2_with fail
  go_ret
  exact ⟨rfl, rfl⟩
set_option maxRecDepth 100000 in
theorem idxC_none (q : Option Addr) (c : Cell) (cp : Nat) (w : World) : Calls Tryd.prog 101 #[.slice q 0 cp, .agg (cellA c)] w fun e w' => e = .returned (.int .i64 (-1)) ∧ ∃ x, w' = ext w x := by
  unfold cellA
  obtain ⟨c1, c2, c3, c4⟩ := c
  dsimp only
  go_enter Tryd.func101, Tryd.ntmps101
  go_wp2
  refine wp_loop_rounds 1 ?_
  rw [rounds_succ]
  go_wp2_with fail
  go_ret
  exact ⟨rfl, ext_alloc _ (ext_refl w)⟩
set_option maxRecDepth 100000 in
theorem hasC_none (q : Option Addr) (c : Cell) (cp : Nat) (w : World) : Calls Tryd.prog 60 #[.slice q 0 cp, .agg (cellA c)] w fun e w' => e = .returned (.bool false) ∧ ∃ x, w' = ext w x := by
  have IX := fun w => idxC_none q c cp w
  unfold cellA at IX ⊢
  obtain ⟨c1, c2, c3, c4⟩ := c
  dsimp only at IX ⊢
  go_enter Tryd.func60, Tryd.ntmps60
  go_wp2_with fail
  refine (IX _).mono ?_
  rintro _ w2 ⟨rfl, hx⟩
  have X2 := Lib.hid (ext_trans (ext_alloc (.cells #[.string c1, .string c2, .string c3, .string c4] 81) (ext_refl w)) hx)
  clear hx IX
  go_wp2_with fail
  go_ret
  exact ⟨rfl, X2.out⟩
/-- Whether any event is such a one: of those of a kind. -/
theorem anyE_any {α : Type} [Inhabited α] (val : α → Ev) (p : α → Bool) (g : Nat) (lb : Array Value) (eg : ∀ args w, (callFunc g args).run Tryd.prog w = .ok (.enter g args) w) (q : Option Addr) (cp : Nat) (l : List α) (w : World)
    (hp : PredBelow Tryd.prog g lb (fun x => .agg (evVs (val x)).toArray) p w) (hl : l.length ≤ 9223372036854775807) (he : evsAt w q (l.map val)) :
    Calls Tryd.prog 58 #[.slice q l.length cp, .func (.func g) #[] lb] w fun e w' => e = .returned (.bool (l.any p)) ∧ ∃ x, w' = ext w x := by
  rcases he with he | ⟨b, o, rfl, hb, hc⟩
  · have : l = [] := List.map_eq_nil_iff.1 he
    subst this
    exact (anyE_none q _ cp w).mono fun e w' ⟨h1, h2⟩ => ⟨h1, by rw [h2]; exact ext_refl w⟩
  · have h := AnyQ.slices_ContainsFunc Tryd.anyEvent 5 isAggE sizeOfE (fun x => evVs (val x)) (fun _ => rfl) p g lb eg b o l.length cp l w hp (Nat.le_refl _) hl hb (fun j hj i v hi => by
      refine hc j (val l[j]!) ?_ i v hi
      rw [List.getElem?_map, List.getElem?_eq_getElem hj]
      simp [hj])
    rw [List.take_length] at h
    exact h.mono fun e w' ⟨h1, h2⟩ => ⟨h1, ext_of h2⟩
/-- Rows in memory. -/
def cellsIn (w : World) (q : Option Addr) (l : List Cell) : Prop :=
  l = [] ∨ ∃ g, q = some ⟨g, 0, none⟩ ∧ g < w.heap.size ∧ ∀ j, j < l.length → ∀ i v, (cellVs l[j]!)[i]? = some v → w.cell? ⟨g, 0 + j * 4 + i, none⟩ = some v
theorem cellsIn_of {w : World} {base : Nat} {q : Option Addr} {m cap : Nat} {l : List Cell} (h : ownsCl w base (.slice q m cap) l) : cellsIn w q l ∧ m = l.length := by
  by_cases e : l = []
  · subst e
    refine ⟨.inl rfl, ?_⟩
    obtain ⟨_, ⟨h1, _⟩ | ⟨g, cap', cur, h1, _⟩⟩ := h
    · cases h1; rfl
    · cases h1; rfl
  · obtain ⟨g, cap', cur, hv, _, hh, _, _, _, hx⟩ := ownsCl_form h e
    cases hv
    refine ⟨.inr ⟨g, rfl, lt_of_heap hh, fun j hj i v hi => ?_⟩, rfl⟩
    have hi4 : i < 4 := by have := (List.getElem?_eq_some_iff.1 hi).1; simpa [cellVs] using this
    have := row_cell hh hx (0 + j * 4 + i) (by omega)
    rw [this]
    have h0 : (0 + j * 4 + i) / 4 = j := by omega
    have h1 : (0 + j * 4 + i) % 4 = i := by omega
    rw [h0, h1, getElem!_def, hi]
theorem anyC_any (p : Cell → Bool) (g : Nat) (lb : Array Value) (eg : ∀ args w, (callFunc g args).run Tryd.prog w = .ok (.enter g args) w) (q : Option Addr) (cp : Nat) (l : List Cell) (w : World)
    (hp : PredBelow Tryd.prog g lb (fun x => .agg (cellVs x).toArray) p w) (hl : l.length ≤ 9223372036854775807) (he : cellsIn w q l) :
    Calls Tryd.prog 63 #[.slice q l.length cp, .func (.func g) #[] lb] w fun e w' => e = .returned (.bool (l.any p)) ∧ ∃ x, w' = ext w x := by
  rcases he with he | ⟨b, rfl, hb, hc⟩
  · subst he
    exact (anyC_none q _ cp w).mono fun e w' ⟨h1, h2⟩ => ⟨h1, by rw [h2]; exact ext_refl w⟩
  · have h := AnyQ.slices_ContainsFunc Tryd.anyCell 4 isAggC sizeOfC cellVs (fun _ => rfl) p g lb eg b 0 l.length cp l w hp (Nat.le_refl _) hl hb hc
    rw [List.take_length] at h
    exact h.mono fun e w' ⟨h1, h2⟩ => ⟨h1, ext_of h2⟩
def cellEq (c d : Cell) : Bool := c.table.toList == d.table.toList && c.row.toList == d.row.toList && c.subject.toList == d.subject.toList && c.value.toList == d.value.toList
theorem cellEq_iff {c d : Cell} : cellEq c d = true ↔ c = d := by
  unfold cellEq
  simp only [ByteArray.toList_eq, Bool.and_eq_true, beq_iff_eq]
  constructor
  · rintro ⟨⟨⟨h1, h2⟩, h3⟩, h4⟩
    exact cell_ext (Prod.ext h1 h2) h3 h4
  · rintro rfl; simp
theorem eqC : EqlAt Tryd.prog 81 (fun x => .agg (cellVs x).toArray) cellEq := by
  refine ⟨fun x y w => ?_, GuardAt.agg _ (by kernel_rfl)⟩
  have u9 := Tryd.underlying9
  have a9 := Tryd.isAgg9
  have z9 := Tryd.sizeOf9
  have hS : Tryd.prog.underlying 81 = some (.struct (Tryd.prog.fieldsOf 81)) := by kernel_rfl
  have hp : Tryd.prog.stoodInHeld 81 = false := by kernel_rfl
  simp only [cellVs]
  rw [run_eql_struct, show (10000 : Nat) = 9999 + 1 from rfl, run_equalIn_agg w 9999 81 _ _ hS hp]
  simp only [Program.fieldsOf, Tryd.underlying81]
  unfold cellEq
  go_simp
  by_cases h1 : x.table.toList = y.table.toList <;> by_cases h2 : x.row.toList = y.row.toList <;> by_cases h3 : x.subject.toList = y.subject.toList <;> by_cases h4 : x.value.toList = y.value.toList <;> simp [h1, h2, h3, h4]
theorem hasC_any (c : Cell) (q : Option Addr) (cp : Nat) (l : List Cell) (w : World) (hl : l.length ≤ 9223372036854775807) (he : cellsIn w q l) :
    Calls Tryd.prog 60 #[.slice q l.length cp, .agg (cellA c)] w fun e w' => e = .returned (.bool (l.any fun y => cellEq c y)) ∧ ∃ x, w' = ext w x := by
  rcases he with he | ⟨b, rfl, hb, hc⟩
  · subst he
    exact hasC_none q c cp w
  · have h := AnyQ.slices_Contains Tryd.hasCell 4 isAggC sizeOfC cellVs (fun _ => rfl) cellEq eqC b 0 l.length cp l c w (Nat.le_refl _) hl hc
    rw [List.take_length] at h
    exact h.mono fun e w' ⟨h1, h2⟩ => ⟨h1, ext_of h2⟩
end Go.Proofs.YtjjadgcpmfmlfaaDoor
