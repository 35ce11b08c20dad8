/- Arguments and variables as data: events, the words, the library's bound; a row's contract with the world's shape. · Arguments as data: slices of events. · Slices of events that the call owns: appended to. · slices.ContainsFunc, slices.Contains at events and rows. · Rows of the call's own: stored into, cleared, cloned. · slices.Clone at records and at events. -/
import Derived.Test.YtnkmckdefiblhaaGreatDoorProg
import Derived.Test.YtnkmckdefiblhaaGreatDoorRows
import Derived.Test.YtnkmckdefiblhaaGreatDoorG12
import Derived.Lib.SmallJoins
import Derived.Lib.LaidTab
import Derived.Stop.LaidErr
import Derived.Shelf.Vars
import Derived.Handed
import Derived.ProofKit
import Derived.Lay
import Derived.Test.YtnkmckdefiblhaaGreatDoorG3
import Derived.Deep.Slices
import Derived.Test.YtnkmckdefiblhaaGreatDoorG15
import Derived.Maps.AppendAt
import Derived.Laws.StructEq
import Derived.Lib.FrozenHead
import Derived.Lib.SliceRun
import Derived.Test.YtnkmckdefiblhaaGreatDoorG19
namespace Go.Proofs.YtnkmckdefiblhaaGreatDoor
open Go.ChangeShapes Go.WideShapes Go.ChangeAt Go.RowKit

section
variable {H : Type} {enc : TypeId × Value → H}
end

/-! ### Texts that a variable holds -/
theorem cells_of_strs {H : Type} {enc : TypeId × Value → H} {P : Program} {w : World} {base : Nat} {sp : Nat → Bool} {held : Bool} {fuel : Nat} {t e : TypeId} {n : Nat} {cs : List Value} {ss : List (List UInt8)} {p : List MemPlace}
    (ht : P.underlying t = some (.array n e)) (he : P.underlying e = some .string) (hce : P.cellsOf e = 1) (hct : P.cellsOf t = n)
    (h : DataW.trod enc P w base sp held fuel t cs = some (.agg (ss.map fun s => .lit (.string s)), p)) : cs = ss.map fun s => Value.string ⟨s.toArray⟩ := by
  cases fuel with
  | zero => simp [DataW.trod] at h
  | succ fuel =>
    simp only [DataW.trod, ht, hce, hct, Nat.mul_one] at h
    split at h
    · rename_i hl
      obtain ⟨xs, hm, hx⟩ := Option.map_eq_some_iff.1 h
      have hxs : xs.map (·.1) = ss.map fun s => (DataW.lit (.string s) : DataW H) := by
        have := congrArg Prod.fst hx
        simpa using this
      have hxl : xs.length = n := by simpa using Lib.mapM_length hm
      have hsl : ss.length = n := by
        have := congrArg List.length hxs
        simp at this
        omega
      apply List.ext_getElem?
      intro i
      by_cases hi : i < n
      · obtain ⟨b, hb, hf⟩ := Lib.mapM_at hm i i (by simp [hi])
        obtain ⟨z, hc, rfl, _⟩ := DataW.trod_string he hf
        have h1 : cs[i]? = some (.string z) := by
          have := congrArg (·[0]?) hc
          simpa [List.getElem?_take, List.getElem?_drop] using this
        have h2 : (xs.map (·.1))[i]? = some (DataW.lit (.string z.data.toList) : DataW H) := by simp [hb]
        rw [hxs] at h2
        simp only [List.getElem?_map, Option.map_eq_some_iff, DataW.lit.injEq, Lit.string.injEq] at h2
        obtain ⟨z', hz', e⟩ := h2
        subst e
        simp [h1, hz']
      · rw [List.getElem?_eq_none (by omega), List.getElem?_eq_none (by simp; omega)]
    · cases h
theorem gWords : Tryz.prog.globalNamed "oubliette/event.words" = some 6 := by kernel_rfl
theorem tWords : (Tryz.prog.globals[6]?).map (·.type) = some 201 := by kernel_rfl
theorem WordsV_of_laid {rest : List (String × DataW Unit)} {W : World} (h : laidMet Tryz.prog (("oubliette/event.words", Rows.laid_oubliette_event_words) :: rest) W) : WordsV W := by
  obtain ⟨ps, ⟨g', t', cs, fuel, p, q, hg', ht', hvar, hd, _, _⟩, _⟩ := h
  obtain rfl := Option.some.inj (gWords.symm.trans hg')
  obtain rfl := Option.some.inj (tWords.symm.trans ht')
  have hcs : cs.toList = [wordL 0, wordL 1, wordL 2, wordL 3].map fun s => Value.string ⟨s.toArray⟩ := cells_of_strs (ss := [wordL 0, wordL 1, wordL 2, wordL 3]) (p := p) Tryz.underlying201 Tryz.underlying9 (by kernel_rfl) (by kernel_rfl) hd
  obtain rfl : cs = ([wordL 0, wordL 1, wordL 2, wordL 3].map fun s => Value.string ⟨s.toArray⟩).toArray := by rw [← hcs, Array.toArray_toList]
  have hc : ∀ j, j < 4 → W.cell? ⟨6, j, none⟩ = some (.string (wordT j)) := fun j hj => by
    have h1 := World.var?_cell gWords hvar j
    rw [h1]
    match j, hj with
    | 0, _ => rfl
    | 1, _ => rfl
    | 2, _ => rfl
    | 3, _ => rfl
  exact ⟨block_lt_of_cell (hc 0 (by omega)), hc⟩
theorem MaxL_of_shape {W : World} (h : W.ShapedOpen Tryz.prog) : MaxL W := by
  obtain ⟨m, hm⟩ := Go.Proofs.cell_of_shapedOpen_int (g := 4) (zero := #[.int .i64 0]) (t := 3) h (of_decide_eq_true (by kernel_rfl)) (by kernel_rfl) rfl (by kernel_rfl) (by kernel_rfl) Tryz.underlying3
  exact ⟨block_lt_of_cell hm, m, hm⟩

/-- What is laid over a world is met there. -/
theorem laid_over {P : Program} {w0 : World} {l : List (String × DataW Unit)} (args : Array Value) (fits : w0.layFits P l [] = true) (ifs : w0.layIfaces P l (w0.layVars P l) = true) : laidMet P l ((w0.layVars P l).forCall (fun _ _ => 0) ⟨#[], args, []⟩).memory := by
  have all : (l.filter fun x => (l.map (·.1)).contains x.1) = l := by
    rw [List.filter_eq_self]
    intro x hx
    exact List.contains_iff_mem.2 (List.mem_map_of_mem hx)
  have no : (l.filter fun x => !(l.map (·.1)).contains x.1) = [] := by
    rw [List.filter_eq_nil_iff]
    intro x hx
    rw [List.contains_iff_mem.2 (List.mem_map_of_mem hx)]
    simp
  have met : laidMet P l (w0.layVars P l) := by
    refine laidMet_layVars (w0 := w0) (l.map (·.1)) [] ?_ ?_ ?_ ?_
    · rw [all]
    · rw [all]; exact fits
    · rw [all]; exact ifs
    · rw [no]; exact LaidIn.none
  exact met.of_heap (by simp [World.memory, World.forCall, Input.heap])

/-! ### A row's contract, the world's shape at hand -/
theorem handed_and_shaped {H : Type} {enc : TypeId × Value → H} {a : Assume} {C : Checked} {os : Os} {f : FuncId} {fn : Func} {s : ChangeSpec} {conds : List PathCond} {apart fresh handsOn again : Bool} {X : World → Array Value → Prop}
    (hX : ∀ (w w' : World) (args : Array Value), w.heap = w'.heap → X w args → X w' args)
    (own : ownKnob C.prog.godebug = none) (started : os.Started) (noInit : C.prog.inits.idxOf? f = none) (hfn : C.prog.funcs[f]? = some fn)
    (witness : ∃ (w : World) (tape : Tape) (i : Input), w.os = os ∧ (w.forCall tape i).Shaped C.prog ∧ i.vars = [] ∧ Input.okWide C.prog (w.forCall tape i) .any w.heap.size f i ∧
      ((s.pre enc C.prog fn conds apart (w.forCall tape i).memory i.args ∧ X (w.forCall tape i).memory i.args) ∧ sizedMet enc C.prog fn (OpenSpec.ofChange s) apart (w.forCall tape i).memory i.args) ∧ a.holds C.prog (lone (Frame.enter C.prog f i.args .normal) [] (w.forCall tape i)))
    (contract : ∀ (W : World) (base : Nat) (args : Array Value) (ds gs : List (DataW H)) (before : List MemPlace),
      (∀ (j : Nat) t v, fn.params[j]? = some t → args[j]? = some v → Value.okWide C.prog W .any base t v) →
      DataW.Whole enc C.prog fn.params.toList s.vars apart W args.toList ds gs before →
      conds.all (PathCond.test C.prog ⟨fn.params.toList, ds, s.plain.varTypes C.prog, gs⟩) = true →
      W.ShapedOpen C.prog → X W args →
      Calls C.prog f args W fun e W' => ∃ v, e = .returned v ∧ s.post enc C.prog fn apart fresh handsOn again W args v W') :
    ReturnsInHanded a C os f .any (fun w args => (s.pre enc C.prog fn conds apart w args ∧ X w args) ∧ sizedMet enc C.prog fn (OpenSpec.ofChange s) apart w args) (s.post enc C.prog fn apart fresh handsOn again) := by
  refine returnsInHanded_of_calls own started noInit witness ?_
  intro w tape i _ hsh _ hok hpre _
  obtain ⟨_, _, _, fn', hfn', _, _, _, _, hval⟩ := hok
  obtain rfl : fn' = fn := Option.some.inj (hfn'.symm.trans hfn)
  obtain ⟨⟨⟨ds, gs, before, hw, hc⟩, hx⟩, _⟩ := hpre
  have hw' := DataW.Whole.of_heap (w' := w.forCall tape i) (by rfl) hw
  refine (contract (w.forCall tape i) w.heap.size i.args ds gs before hval hw' hc hsh (hX _ _ _ (by rfl) hx)).mono fun e W' ⟨v, he, hp⟩ => ?_
  subst he
  exact ChangeSpec.post_blind hp
end Go.Proofs.YtnkmckdefiblhaaGreatDoor
namespace Go.Proofs.YtnkmckdefiblhaaGreatDoor
open Go.ChangeShapes Go.WideShapes Go.ChangeAt Go.RowKit

instance : Inhabited Ev := ⟨⟨0, ⟨#[]⟩, ⟨#[]⟩, ⟨#[]⟩, ⟨#[]⟩⟩⟩
/-- An event's cells. -/
def evVs (e : Ev) : List Value := [.int .i64 e.kind, .string e.subject, .string e.table, .string e.row, .string e.value]
theorem addr_add (b o j : Nat) : (⟨b, o, none⟩ : Addr).add j = ⟨b, o + j, none⟩ := by unfold Addr.add; split <;> simp_all
/-- A slice of events. -/
def evsAt (w : World) (p : Option Addr) (l : List Ev) : Prop :=
  l = [] ∨ ∃ g o, p = some ⟨g, o, none⟩ ∧ g < w.heap.size ∧ ∀ j e, l[j]? = some e → ∀ i v, (evVs e)[i]? = some v → w.cell? ⟨g, o + j * 5 + i, none⟩ = some v
theorem evsAt_of {w w' : World} {p : Option Addr} {l : List Ev} (h : evsAt w p l) (hh : ∀ k, k < w.heap.size → w'.heap[k]? = w.heap[k]?) (hs : w.heap.size ≤ w'.heap.size) : evsAt w' p l := by
  rcases h with h | ⟨g, o, rfl, hg, hc⟩
  · exact .inl h
  · exact .inr ⟨g, o, rfl, Nat.lt_of_lt_of_le hg hs, fun j e hj i v hi => by have := hc j e hj i v hi; rw [cell_in] at this ⊢; rw [hh g hg]; exact this⟩
section
variable {H : Type} {enc : TypeId × Value → H}
end
end Go.Proofs.YtnkmckdefiblhaaGreatDoor
namespace Go.Proofs.YtnkmckdefiblhaaGreatDoor
open Go.RowKit Go.Shelf

/-- Events' cells, one behind the other. -/
def flatE (l : List Ev) : List Value := l.flatMap evVs
/-- A slice of events of the call's own. -/
def ownsEl (w : World) (base : Nat) (v : Value) (l : List Ev) : Prop := w.ownsRow base 155 5 v l.length (flatE l)
theorem ownsEl.kept {w w' : World} {base : Nat} {v : Value} {l : List Ev} {row : Option Nat} (h : ownsEl w base v l) (hg : w.grownBy w' row) (hne : ∀ g, v.ownBlock = some g → some g ≠ row) : ownsEl w' base v l := by
  obtain ⟨h1, ⟨rfl, h2⟩ | ⟨g, cap, cur, rfl, hb, hh, h3⟩⟩ := h
  · exact ⟨h1, .inl ⟨rfl, h2⟩⟩
  · exact ⟨h1, .inr ⟨g, cap, cur, rfl, hb, (hg.block g (lt_of_heap hh) (hne g rfl)).trans hh, h3⟩⟩
theorem ownsEl.base {w : World} {base : Nat} {v : Value} {l : List Ev} (h : ownsEl w base v l) {g : Nat} (hg : v.ownBlock = some g) : base ≤ g ∧ g < w.heap.size := by
  obtain ⟨h1, ⟨rfl, h2⟩ | ⟨g', cap, cur, rfl, hb, hh, h3⟩⟩ := h
  · simp [Value.ownBlock] at hg
  · simp only [Value.ownBlock, Option.some.injEq] at hg
    subst hg
    exact ⟨hb, lt_of_heap hh⟩
section
variable {ops : Array Oper} {rest : List Oper} {o : Oper} {a : Act} {w : World} {Q : Exit → Act → World → Prop}
end
end Go.Proofs.YtnkmckdefiblhaaGreatDoor
namespace Go.Proofs.YtnkmckdefiblhaaGreatDoor
open Go.RowKit Go.Shelf Go.Lib

/-- Rows in memory. -/
def cellsIn (w : World) (q : Option Addr) (l : List Cell) : Prop :=
  l = [] ∨ ∃ g, q = some ⟨g, 0, none⟩ ∧ g < w.heap.size ∧ ∀ j, j < l.length → ∀ i v, (cellVs l[j]!)[i]? = some v → w.cell? ⟨g, 0 + j * 4 + i, none⟩ = some v
theorem cellsIn_of {w : World} {base : Nat} {q : Option Addr} {m cap : Nat} {l : List Cell} (h : ownsCl w base (.slice q m cap) l) : cellsIn w q l ∧ m = l.length := by
  by_cases e : l = []
  · subst e
    refine ⟨.inl rfl, ?_⟩
    obtain ⟨_, ⟨h1, _⟩ | ⟨g, cap', cur, h1, _⟩⟩ := h
    · cases h1; rfl
    · cases h1; rfl
  · obtain ⟨g, cap', cur, hv, _, hh, _, _, _, hx⟩ := ownsCl_form h e
    cases hv
    refine ⟨.inr ⟨g, rfl, lt_of_heap hh, fun j hj i v hi => ?_⟩, rfl⟩
    have hi4 : i < 4 := by have := (List.getElem?_eq_some_iff.1 hi).1; simpa [cellVs] using this
    have := row_cell hh hx (0 + j * 4 + i) (by omega)
    rw [this]
    have h0 : (0 + j * 4 + i) / 4 = j := by omega
    have h1 : (0 + j * 4 + i) % 4 = i := by omega
    rw [h0, h1, getElem!_def, hi]
def cellEq (c d : Cell) : Bool := c.table.toList == d.table.toList && c.row.toList == d.row.toList && c.subject.toList == d.subject.toList && c.value.toList == d.value.toList
end Go.Proofs.YtnkmckdefiblhaaGreatDoor
namespace Go.Proofs.YtnkmckdefiblhaaGreatDoor
open Go.RowKit Go.Shelf

section
variable {ops : Array Oper} {rest : List Oper} {o : Oper} {a : Act} {w : World} {Q : Exit → Act → World → Prop}
end
end Go.Proofs.YtnkmckdefiblhaaGreatDoor
namespace Go.Proofs.YtnkmckdefiblhaaGreatDoor
open Go.RowKit Go.Shelf

theorem flatRec_one (l : List Rec) : ∀ v ∈ flatRec l, v.oneCell' = true := by
  intro v hv
  obtain ⟨c, _, hv⟩ := List.mem_flatMap.1 hv
  simp [recVs] at hv
  rcases hv with rfl | rfl | rfl | rfl | rfl <;> rfl
theorem flatRec_at (l : List Rec) (j : Nat) (u : Value) (h : (flatRec l)[j]? = some u) : ∃ x, l[j / 5]? = some x ∧ (recVs x)[j % 5]? = some u := by
  have hj := (List.getElem?_eq_some_iff.1 h).1
  rw [flatRec_length] at hj
  have hx := List.getElem?_eq_getElem (l := l) (i := j / 5) (by omega)
  refine ⟨_, hx, ?_⟩
  have h5 : j % 5 < (recVs l[j / 5]).length := by show j % 5 < 5; omega
  have := flatRec_get l (j / 5) _ hx (j % 5) _ (List.getElem?_eq_getElem h5)
  rw [show j / 5 * 5 + j % 5 = j by omega, h] at this
  rw [List.getElem?_eq_getElem h5]; exact this.symm
theorem recs_flat {w : World} {ad : Addr} {l : List Rec} (h : recsAt w (some ad) l) : ∀ j u, (flatRec l)[j]? = some u → ad.block < w.heap.size ∧ w.cell? (ad.add j) = some u := by
  intro j u hj
  obtain ⟨x, hx, hu⟩ := flatRec_at l j u hj
  rcases h with h | ⟨g, o, hq, hg, hc⟩
  · subst h; simp at hx
  · cases hq
    refine ⟨hg, ?_⟩
    rw [addr_add]
    have := hc (j / 5) x hx (j % 5) u hu
    rw [show o + j / 5 * 5 + j % 5 = o + j by omega] at this
    exact this
section
variable {ops : Array Oper} {rest : List Oper} {o : Oper} {a : Act} {w : World} {Q : Exit → Act → World → Prop}
/-- 'append(m, l...)' at records. -/
theorem append_recs (base : Nat) (v : Value) (s x : Operand) (m l : List Rec) (ad : Addr) (c : Nat)
    (ho : o.op = .call { callee := .builtin .append, args := #[s, x], argTypes := #[88, 88] }) (hgd : o.guard = none) (hs : a.eval s = v) (hx : a.eval x = .slice (some ad) l.length c)
    (hown : ownsRl w base v m) (hc : ∀ j u, (flatRec l)[j]? = some u → w.cell? (ad.add j) = some u) (hlen : m.length + l.length ≤ 1099511627776) (hbase : base ≤ w.heap.size)
    (h : ∀ v' w', ownsRl w' base v' (m ++ l) → w.grownBy w' v.ownBlock → wpList Tryz.prog ops Q rest (a.put o.dst v') w') :
    wpList Tryz.prog ops Q (o :: rest) a w := by
  obtain ⟨i0, hi, hz0, hz1, hz2⟩ := info_parts infoRec
  refine wpList_append_own_at _ hgd s x 88 ho base 108 i0 (.agg (recV zeroR)) 5 64 Tryz.underlying88 hi hz0 hz1 hz2 rfl (by decide) v m.length (flatRec m) hs hown
    ad l.length c (flatRec l) hx (flatRec_length l) hc (flatRec_one l) (by unfold maxLen; omega) (by omega) hbase ?_
  intro v' w' h1 h2 _ _
  refine h v' w' ?_ h2
  unfold ownsRl
  rw [flatRec_append, List.length_append]
  exact h1
end
set_option maxRecDepth 100000 in
theorem cloneR_any (q : Option Addr) (cp : Nat) (l : List Rec) (w : World) (h : recsAt w q l) (hl : l.length ≤ 1048576) :
    Calls Tryz.prog 123 #[.slice q l.length cp] w fun r w' => ∃ v, r = .returned v ∧ ownsRl w' w.heap.size v l ∧ Below w.heap.size w w' := by
  have q22 : ∀ (w : World) (a : Option Addr) (n c n' c' : Nat), (binOp .eql 88 (.slice a n c) (.slice none n' c')).run Tryz.prog w = .ok (.bool a.isNone) w := fun w a n c n' c' => Lib.run_eql_slice_nil w _ _ a n c n' c' Tryz.underlying88
  cases q with
  | none =>
    have h0 : l = [] := by
      rcases h with h | ⟨g, o, hq, _⟩
      · exact h
      · cases hq
    subst h0
    clear h hl
    go_enter Tryz.func123, Tryz.ntmps123
    go_wp2_with fail
    go_ret
    exact ⟨_, rfl, ownsRl_nil _ _, Below.refl _ _⟩
  | some ad =>
    have hc : ∀ j u, (flatRec l)[j]? = some u → (w.alloc (.cells #[] 108)).cell? (ad.add j) = some u := fun j u hj => (recs_flat (recsAt_of h (fun k hk => heap_alloc_old _ _ hk) (by simp)) j u hj).2
    have HC := Lib.hid hc
    have O0 : ownsRl (w.alloc (.cells #[] 108)) w.heap.size (.slice (some ⟨w.heap.size, 0, none⟩) 0 0) [] := ⟨rfl, .inr ⟨w.heap.size, 0, #[], rfl, Nat.le_refl _, heap_alloc_at _ _, Nat.le_refl _, Nat.zero_le _, rfl, rfl⟩⟩
    have O0 := Lib.hid O0
    have hsz : w.heap.size ≤ (w.alloc (.cells #[] 108)).heap.size := by simp
    have B0 := Lib.hid ((Below.refl w.heap.size w).alloc (Nat.le_refl _) (.cells #[] 108))
    clear hc h
    go_enter Tryz.func123, Tryz.ntmps123
    go_wp2_with (at_builtin; go_must (refine append_recs w.heap.size _ (.tmp 5) (.tmp 6) [] l ad cp rfl rfl rfl rfl O0.out HC.out (by simp; omega) hsz ?_); intro v' w' OWn g')
    go_ret
    exact ⟨_, rfl, OWn, B0.out.grown g' hsz (fun j hj => by cases hj; exact Nat.le_refl _)⟩
end Go.Proofs.YtnkmckdefiblhaaGreatDoor
