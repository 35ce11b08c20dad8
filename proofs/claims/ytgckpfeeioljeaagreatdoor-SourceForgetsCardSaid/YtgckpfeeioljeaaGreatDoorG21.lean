/- Arguments and variables as data: events, the words, the library's bound; a row's contract with the world's shape. · Arguments as data: slices of events. · Slices of events that the call owns: appended to. -/
import Derived.Test.YtgckpfeeioljeaaGreatDoorProg
import Derived.Test.YtgckpfeeioljeaaGreatDoorRows
import Derived.Test.YtgckpfeeioljeaaGreatDoorG14
import Derived.Lib.SmallJoins
import Derived.Lib.LaidTab
import Derived.Stop.LaidErr
import Derived.Shelf.Vars
import Derived.Handed
import Derived.ProofKit
import Derived.Lay
import Derived.Test.YtgckpfeeioljeaaGreatDoorG3
import Derived.Deep.Slices
import Derived.Test.YtgckpfeeioljeaaGreatDoorG17
import Derived.Maps.AppendAt
namespace Go.Proofs.YtgckpfeeioljeaaGreatDoor
open Go.ChangeShapes Go.WideShapes Go.ChangeAt Go.RowKit

theorem array5 {α : Type} {cs : Array α} (h : cs.size = 5) : ∃ c0 c1 c2 c3 c4, cs = #[c0, c1, c2, c3, c4] := by
  obtain ⟨l⟩ := cs
  match l, h with
  | [c0, c1, c2, c3, c4], _ => exact ⟨c0, c1, c2, c3, c4, rfl⟩
section
variable {H : Type} {enc : TypeId × Value → H}
set_option maxRecDepth 100000 in
/-- An event's value. -/
theorem open_ev {W : World} {base : Nat} {v : Value} {d : DataW H} {p : List MemPlace} (hv : Value.okWide Tryz.prog W .any base 51 v) (h : DataW.Trod enc Tryz.prog W 0 (fun _ => true) true 51 v d p) : ∃ e : Ev, v = .agg (evV e) := by
  have hs := Tryz.underlying51
  have hC : Tryz.prog.cellsOf 51 = 5 := by kernel_rfl
  obtain ⟨cs, rfl, hsz⟩ := okWide_struct hs hv
  obtain ⟨c0, c1, c2, c3, c4, rfl⟩ := array5 (hsz.trans hC)
  obtain ⟨fuel, hf⟩ := h
  obtain ⟨xs, n, _, _, _, hlen, hf⟩ := DataW.trod_struct hs hf
  match xs, hlen with
  | [y0, y1, y2, y3, y4], _ =>
    have h0 := hf 0 _ rfl
    have h1 := hf 1 _ rfl
    have h2 := hf 2 _ rfl
    have h3 := hf 3 _ rfl
    have h4 := hf 4 _ rfl
    simp only [Value.cells, List.getElem?_cons_zero, List.getElem?_cons_succ] at h0 h1 h2 h3 h4
    obtain ⟨a0, e0, _⟩ := DataW.trod_int Tryz.underlying3 h0
    obtain ⟨a1, e1, _⟩ := DataW.trod_string Tryz.underlying9 h1
    obtain ⟨a2, e2, _⟩ := DataW.trod_string Tryz.underlying9 h2
    obtain ⟨a3, e3, _⟩ := DataW.trod_string Tryz.underlying9 h3
    obtain ⟨a4, e4, _⟩ := DataW.trod_string Tryz.underlying9 h4
    injection e0 with e0; injection e1 with e1; injection e2 with e2; injection e3 with e3; injection e4 with e4
    subst e0 e1 e2 e3 e4
    exact ⟨⟨a0, a1, a2, a3, a4⟩, rfl⟩
end

/-! ### Texts that a variable holds -/
theorem cells_of_strs {H : Type} {enc : TypeId × Value → H} {P : Program} {w : World} {base : Nat} {sp : Nat → Bool} {held : Bool} {fuel : Nat} {t e : TypeId} {n : Nat} {cs : List Value} {ss : List (List UInt8)} {p : List MemPlace}
    (ht : P.underlying t = some (.array n e)) (he : P.underlying e = some .string) (hce : P.cellsOf e = 1) (hct : P.cellsOf t = n)
    (h : DataW.trod enc P w base sp held fuel t cs = some (.agg (ss.map fun s => .lit (.string s)), p)) : cs = ss.map fun s => Value.string ⟨s.toArray⟩ := by
  cases fuel with
  | zero => simp [DataW.trod] at h
  | succ fuel =>
    simp only [DataW.trod, ht, hce, hct, Nat.mul_one] at h
    split at h
    · rename_i hl
      obtain ⟨xs, hm, hx⟩ := Option.map_eq_some_iff.1 h
      have hxs : xs.map (·.1) = ss.map fun s => (DataW.lit (.string s) : DataW H) := by
        have := congrArg Prod.fst hx
        simpa using this
      have hxl : xs.length = n := by simpa using Lib.mapM_length hm
      have hsl : ss.length = n := by
        have := congrArg List.length hxs
        simp at this
        omega
      apply List.ext_getElem?
      intro i
      by_cases hi : i < n
      · obtain ⟨b, hb, hf⟩ := Lib.mapM_at hm i i (by simp [hi])
        obtain ⟨z, hc, rfl, _⟩ := DataW.trod_string he hf
        have h1 : cs[i]? = some (.string z) := by
          have := congrArg (·[0]?) hc
          simpa [List.getElem?_take, List.getElem?_drop] using this
        have h2 : (xs.map (·.1))[i]? = some (DataW.lit (.string z.data.toList) : DataW H) := by simp [hb]
        rw [hxs] at h2
        simp only [List.getElem?_map, Option.map_eq_some_iff, DataW.lit.injEq, Lit.string.injEq] at h2
        obtain ⟨z', hz', e⟩ := h2
        subst e
        simp [h1, hz']
      · rw [List.getElem?_eq_none (by omega), List.getElem?_eq_none (by simp; omega)]
    · cases h
theorem gWords : Tryz.prog.globalNamed "oubliette/event.words" = some 0 := by kernel_rfl
theorem tWords : (Tryz.prog.globals[0]?).map (·.type) = some 142 := by kernel_rfl
theorem WordsV_of_laid {rest : List (String × DataW Unit)} {W : World} (h : laidMet Tryz.prog (("oubliette/event.words", Rows.laid_oubliette_event_words) :: rest) W) : WordsV W := by
  obtain ⟨ps, ⟨g', t', cs, fuel, p, q, hg', ht', hvar, hd, _, _⟩, _⟩ := h
  obtain rfl := Option.some.inj (gWords.symm.trans hg')
  obtain rfl := Option.some.inj (tWords.symm.trans ht')
  have hcs : cs.toList = [wordL 0, wordL 1, wordL 2, wordL 3].map fun s => Value.string ⟨s.toArray⟩ := cells_of_strs (ss := [wordL 0, wordL 1, wordL 2, wordL 3]) (p := p) Tryz.underlying142 Tryz.underlying9 (by kernel_rfl) (by kernel_rfl) hd
  obtain rfl : cs = ([wordL 0, wordL 1, wordL 2, wordL 3].map fun s => Value.string ⟨s.toArray⟩).toArray := by rw [← hcs, Array.toArray_toList]
  have hc : ∀ j, j < 4 → W.cell? ⟨0, j, none⟩ = some (.string (wordT j)) := fun j hj => by
    have h1 := World.var?_cell gWords hvar j
    rw [h1]
    match j, hj with
    | 0, _ => rfl
    | 1, _ => rfl
    | 2, _ => rfl
    | 3, _ => rfl
  exact ⟨block_lt_of_cell (hc 0 (by omega)), hc⟩
theorem MaxL_of_shape {W : World} (h : W.ShapedOpen Tryz.prog) : MaxL W := by
  obtain ⟨m, hm⟩ := Go.Proofs.cell_of_shapedOpen_int (g := 3) (zero := #[.int .i64 0]) (t := 3) h (of_decide_eq_true (by kernel_rfl)) (by kernel_rfl) rfl (by kernel_rfl) (by kernel_rfl) Tryz.underlying3
  exact ⟨block_lt_of_cell hm, m, hm⟩

/-- What is laid over a world is met there. -/
theorem laid_over {P : Program} {w0 : World} {l : List (String × DataW Unit)} (args : Array Value) (fits : w0.layFits P l [] = true) (ifs : w0.layIfaces P l (w0.layVars P l) = true) : laidMet P l ((w0.layVars P l).forCall (fun _ _ => 0) ⟨#[], args, []⟩).memory := by
  have all : (l.filter fun x => (l.map (·.1)).contains x.1) = l := by
    rw [List.filter_eq_self]
    intro x hx
    exact List.contains_iff_mem.2 (List.mem_map_of_mem hx)
  have no : (l.filter fun x => !(l.map (·.1)).contains x.1) = [] := by
    rw [List.filter_eq_nil_iff]
    intro x hx
    rw [List.contains_iff_mem.2 (List.mem_map_of_mem hx)]
    simp
  have met : laidMet P l (w0.layVars P l) := by
    refine laidMet_layVars (w0 := w0) (l.map (·.1)) [] ?_ ?_ ?_ ?_
    · rw [all]
    · rw [all]; exact fits
    · rw [all]; exact ifs
    · rw [no]; exact LaidIn.none
  exact met.of_heap (by simp [World.memory, World.forCall, Input.heap])

/-! ### A row's contract, the world's shape at hand -/
theorem handed_and_shaped {H : Type} {enc : TypeId × Value → H} {a : Assume} {C : Checked} {os : Os} {f : FuncId} {fn : Func} {s : ChangeSpec} {conds : List PathCond} {apart fresh handsOn again : Bool} {X : World → Array Value → Prop}
    (hX : ∀ (w w' : World) (args : Array Value), w.heap = w'.heap → X w args → X w' args)
    (own : ownKnob C.prog.godebug = none) (started : os.Started) (noInit : C.prog.inits.idxOf? f = none) (hfn : C.prog.funcs[f]? = some fn)
    (witness : ∃ (w : World) (tape : Tape) (i : Input), w.os = os ∧ (w.forCall tape i).Shaped C.prog ∧ i.vars = [] ∧ Input.okWide C.prog (w.forCall tape i) .any w.heap.size f i ∧
      ((s.pre enc C.prog fn conds apart (w.forCall tape i).memory i.args ∧ X (w.forCall tape i).memory i.args) ∧ sizedMet enc C.prog fn (OpenSpec.ofChange s) apart (w.forCall tape i).memory i.args) ∧ a.holds C.prog (lone (Frame.enter C.prog f i.args .normal) [] (w.forCall tape i)))
    (contract : ∀ (W : World) (base : Nat) (args : Array Value) (ds gs : List (DataW H)) (before : List MemPlace),
      (∀ (j : Nat) t v, fn.params[j]? = some t → args[j]? = some v → Value.okWide C.prog W .any base t v) →
      DataW.Whole enc C.prog fn.params.toList s.vars apart W args.toList ds gs before →
      conds.all (PathCond.test C.prog ⟨fn.params.toList, ds, s.plain.varTypes C.prog, gs⟩) = true →
      W.ShapedOpen C.prog → X W args →
      Calls C.prog f args W fun e W' => ∃ v, e = .returned v ∧ s.post enc C.prog fn apart fresh handsOn again W args v W') :
    ReturnsInHanded a C os f .any (fun w args => (s.pre enc C.prog fn conds apart w args ∧ X w args) ∧ sizedMet enc C.prog fn (OpenSpec.ofChange s) apart w args) (s.post enc C.prog fn apart fresh handsOn again) := by
  refine returnsInHanded_of_calls own started noInit witness ?_
  intro w tape i _ hsh _ hok hpre _
  obtain ⟨_, _, _, fn', hfn', _, _, _, _, hval⟩ := hok
  obtain rfl : fn' = fn := Option.some.inj (hfn'.symm.trans hfn)
  obtain ⟨⟨⟨ds, gs, before, hw, hc⟩, hx⟩, _⟩ := hpre
  have hw' := DataW.Whole.of_heap (w' := w.forCall tape i) (by rfl) hw
  refine (contract (w.forCall tape i) w.heap.size i.args ds gs before hval hw' hc hsh (hX _ _ _ (by rfl) hx)).mono fun e W' ⟨v, he, hp⟩ => ?_
  subst he
  exact ChangeSpec.post_blind hp
end Go.Proofs.YtgckpfeeioljeaaGreatDoor
namespace Go.Proofs.YtgckpfeeioljeaaGreatDoor
open Go.ChangeShapes Go.WideShapes Go.ChangeAt Go.RowKit

instance : Inhabited Ev := ⟨⟨0, ⟨#[]⟩, ⟨#[]⟩, ⟨#[]⟩, ⟨#[]⟩⟩⟩
/-- An event's cells. -/
def evVs (e : Ev) : List Value := [.int .i64 e.kind, .string e.subject, .string e.table, .string e.row, .string e.value]
theorem addr_add (b o j : Nat) : (⟨b, o, none⟩ : Addr).add j = ⟨b, o + j, none⟩ := by unfold Addr.add; split <;> simp_all
/-- A slice of events. -/
def evsAt (w : World) (p : Option Addr) (l : List Ev) : Prop :=
  l = [] ∨ ∃ g o, p = some ⟨g, o, none⟩ ∧ g < w.heap.size ∧ ∀ j e, l[j]? = some e → ∀ i v, (evVs e)[i]? = some v → w.cell? ⟨g, o + j * 5 + i, none⟩ = some v
theorem evsAt_of {w w' : World} {p : Option Addr} {l : List Ev} (h : evsAt w p l) (hh : ∀ k, k < w.heap.size → w'.heap[k]? = w.heap[k]?) (hs : w.heap.size ≤ w'.heap.size) : evsAt w' p l := by
  rcases h with h | ⟨g, o, rfl, hg, hc⟩
  · exact .inl h
  · exact .inr ⟨g, o, rfl, Nat.lt_of_lt_of_le hg hs, fun j e hj i v hi => by have := hc j e hj i v hi; rw [cell_in] at this ⊢; rw [hh g hg]; exact this⟩
section
variable {H : Type} {enc : TypeId × Value → H}
set_option maxRecDepth 100000 in
theorem ev_of_trod {W : World} {n : Nat} {cs : List Value} {y : DataW H × List MemPlace} (h : DataW.trod enc Tryz.prog W 0 (fun _ => true) true n 51 cs = some y) : ∃ e : Ev, cs = evVs e := by
  have hs := Tryz.underlying51
  have hC : Tryz.prog.cellsOf 51 = 5 := by kernel_rfl
  cases n with
  | zero => simp [DataW.trod] at h
  | succ n =>
    obtain ⟨xs, m, _, _, hl, hlen, hf⟩ := DataW.trod_struct hs h
    rw [hC] at hl
    match cs, hl, xs, hlen with
    | [c0, c1, c2, c3, c4], _, [y0, y1, y2, y3, y4], _ =>
      have h0 := hf 0 _ rfl
      have h1 := hf 1 _ rfl
      have h2 := hf 2 _ rfl
      have h3 := hf 3 _ rfl
      have h4 := hf 4 _ rfl
      simp only [List.getElem?_cons_zero, List.getElem?_cons_succ] at h0 h1 h2 h3 h4
      obtain ⟨a0, e0, _⟩ := DataW.trod_int Tryz.underlying3 h0
      obtain ⟨a1, e1, _⟩ := DataW.trod_string Tryz.underlying9 h1
      obtain ⟨a2, e2, _⟩ := DataW.trod_string Tryz.underlying9 h2
      obtain ⟨a3, e3, _⟩ := DataW.trod_string Tryz.underlying9 h3
      obtain ⟨a4, e4, _⟩ := DataW.trod_string Tryz.underlying9 h4
      injection e0 with e0; injection e1 with e1; injection e2 with e2; injection e3 with e3; injection e4 with e4
      subst e0 e1 e2 e3 e4
      exact ⟨⟨a0, a1, a2, a3, a4⟩, rfl⟩
theorem evs_of_Trod {W : World} {q : Option Addr} {l c : Nat} {d : DataW H} {p : List MemPlace} (h : DataW.Trod enc Tryz.prog W 0 (fun _ => true) true 22 (.slice q l c) d p) :
    ∃ es : List Ev, l = es.length ∧ evsAt W q es ∧ l ≤ c ∧ c ≤ maxLen ∧ (q = none → l = 0 ∧ c = 0) := by
  have hC : Tryz.prog.cellsOf 51 = 5 := by kernel_rfl
  obtain ⟨fuel, hf⟩ := h
  rcases Go.Deep.open_slice Tryz.underlying22 hf with ⟨hcs, _⟩ | ⟨a, len, cap, m, n, D, Pl, hcs, _, hl, hm, hmm, _, hel⟩
  · simp [Value.cells] at hcs
    obtain ⟨rfl, rfl, rfl⟩ := hcs
    exact ⟨[], rfl, .inl rfl, Nat.le_refl _, Nat.zero_le _, fun _ => ⟨rfl, rfl⟩⟩
  · simp [Value.cells] at hcs
    obtain ⟨rfl, rfl, rfl⟩ := hcs
    simp only [if_true] at hmm
    subst hmm
    obtain ⟨E, hE⟩ := Go.Deep.choose_lt (α := Option Ev) (n := m) (p := fun i x => ∃ e, x = some e ∧ W.cells? 0 (a.add (i * 5)) 5 = some (evVs e)) (fun i hi => by
      obtain ⟨cs', h1, h2⟩ := hel i hi
      obtain ⟨e, rfl⟩ := ev_of_trod h2
      rw [hC] at h1
      exact ⟨some e, e, rfl, h1⟩)
    have hE' : ∀ i, i < m → ∃ e, E i = some e ∧ ∀ t v, (evVs e)[t]? = some v → W.cell? (a.add (i * 5 + t)) = some v := fun i hi => by
      obtain ⟨e, he, hcells⟩ := hE i hi
      refine ⟨e, he, fun t v hv => ?_⟩
      have ht : t < 5 := (List.getElem?_eq_some_iff.1 hv).1
      rw [← Go.Deep.add_add, (World.cells?_some hcells).2.2 t ht]; exact hv
    have hlc : l ≤ m := hl
    refine ⟨(List.range l).map fun i => (E i).getD default, by simp, ?_, hl, hm, fun e => by cases e⟩
    by_cases h0 : l = 0
    · left; subst h0; rfl
    · right
      obtain ⟨b, off, spot⟩ := a
      have hspot : spot = none := by
        obtain ⟨e, he, hc⟩ := hE' 0 (by omega)
        have := hc 0 (.int .i64 e.kind) rfl
        simpa [Addr.add] using World.cell?_spot this
      subst hspot
      have hb : b < W.heap.size := by
        obtain ⟨e, he, hc⟩ := hE' 0 (by omega)
        have := hc 0 (.int .i64 e.kind) rfl
        rw [addr_add] at this
        exact block_lt_of_cell this
      refine ⟨b, off, rfl, hb, fun j e hj i v hv => ?_⟩
      have hjl : j < l := by have := (List.getElem?_eq_some_iff.1 hj).1; simpa using this
      obtain ⟨e', he', hc⟩ := hE' j (by omega)
      have : e' = e := by
        rw [List.getElem?_map, List.getElem?_range hjl] at hj
        simpa [he'] using hj
      subst this
      have := hc i v hv
      rw [addr_add] at this
      rw [Nat.add_assoc]; exact this
end
end Go.Proofs.YtgckpfeeioljeaaGreatDoor
namespace Go.Proofs.YtgckpfeeioljeaaGreatDoor
open Go.RowKit Go.Shelf

/-- Events' cells, one behind the other. -/
def flatE (l : List Ev) : List Value := l.flatMap evVs
theorem flatE_length : ∀ l : List Ev, (flatE l).length = l.length * 5
  | [] => rfl
  | c :: l => by
    have h : flatE (c :: l) = evVs c ++ flatE l := rfl
    rw [h, List.length_append, flatE_length l]
    simp [evVs]; omega
theorem flatE_append (l m : List Ev) : flatE (l ++ m) = flatE l ++ flatE m := List.flatMap_append
theorem flatE_get : ∀ (l : List Ev) (j : Nat) (e : Ev), l[j]? = some e → ∀ i v, (evVs e)[i]? = some v → (flatE l)[j * 5 + i]? = some v
  | [], j, e, h, _, _, _ => by simp at h
  | c :: l, 0, e, h, i, v, hv => by
    simp only [List.getElem?_cons_zero, Option.some.injEq] at h
    subst h
    have hi : i < 5 := (List.getElem?_eq_some_iff.1 hv).1
    show (evVs c ++ flatE l)[0 * 5 + i]? = some v
    rw [List.getElem?_append_left (by simp [evVs]; omega), Nat.zero_mul, Nat.zero_add]
    exact hv
  | c :: l, j + 1, e, h, i, v, hv => by
    simp only [List.getElem?_cons_succ] at h
    show (evVs c ++ flatE l)[(j + 1) * 5 + i]? = some v
    rw [List.getElem?_append_right (by simp [evVs]; omega)]
    have hl : (evVs c).length = 5 := rfl
    rw [hl, show (j + 1) * 5 + i - 5 = j * 5 + i by omega]
    exact flatE_get l j e h i v hv
/-- A slice of events of the call's own. -/
def ownsEl (w : World) (base : Nat) (v : Value) (l : List Ev) : Prop := w.ownsRow base 51 5 v l.length (flatE l)
theorem ownsEl_nil (w : World) (base : Nat) : ownsEl w base (.slice none 0 0) [] := ⟨rfl, .inl ⟨rfl, rfl⟩⟩
theorem infoE : (Tryz.prog.info? 51).map (fun i => (i.zero, i.size, i.bytes)) = some (some (.agg (evV ⟨0, ⟨#[]⟩, ⟨#[]⟩, ⟨#[]⟩, ⟨#[]⟩⟩)), 5, 72) := by kernel_rfl
theorem ownsEl.kept {w w' : World} {base : Nat} {v : Value} {l : List Ev} {row : Option Nat} (h : ownsEl w base v l) (hg : w.grownBy w' row) (hne : ∀ g, v.ownBlock = some g → some g ≠ row) : ownsEl w' base v l := by
  obtain ⟨h1, ⟨rfl, h2⟩ | ⟨g, cap, cur, rfl, hb, hh, h3⟩⟩ := h
  · exact ⟨h1, .inl ⟨rfl, h2⟩⟩
  · exact ⟨h1, .inr ⟨g, cap, cur, rfl, hb, (hg.block g (lt_of_heap hh) (hne g rfl)).trans hh, h3⟩⟩
theorem ownsEl.base {w : World} {base : Nat} {v : Value} {l : List Ev} (h : ownsEl w base v l) {g : Nat} (hg : v.ownBlock = some g) : base ≤ g ∧ g < w.heap.size := by
  obtain ⟨h1, ⟨rfl, h2⟩ | ⟨g', cap, cur, rfl, hb, hh, h3⟩⟩ := h
  · simp [Value.ownBlock] at hg
  · simp only [Value.ownBlock, Option.some.injEq] at hg
    subst hg
    exact ⟨hb, lt_of_heap hh⟩
theorem ownsEl_shape {w : World} {base : Nat} {v : Value} {l : List Ev} (h : ownsEl w base v l) : ∃ q cap, v = .slice q l.length cap := by
  obtain ⟨_, ⟨h1, h2⟩ | ⟨g, cap, cur, h1, _⟩⟩ := h
  · exact ⟨none, 0, by rw [h1, h2]⟩
  · exact ⟨some ⟨g, 0, none⟩, cap, h1⟩
theorem evsAt_owned {w : World} {base : Nat} {q : Option Addr} {n cap : Nat} {l : List Ev} (h : ownsEl w base (.slice q n cap) l) : evsAt w q l := by
  obtain ⟨_, ⟨h1, h2⟩ | ⟨g, cap', cur, h1, _, hh, _, _, _, hx⟩⟩ := h
  · exact .inl (List.length_eq_zero_iff.1 h2)
  · cases h1
    refine .inr ⟨g, 0, rfl, lt_of_heap hh, fun j e hj i v hi => ?_⟩
    have hjl := (List.getElem?_eq_some_iff.1 hj).1
    have hi5 : i < 5 := (List.getElem?_eq_some_iff.1 hi).1
    have h1 : (cur.toList.take (l.length * 5))[j * 5 + i]? = (flatE l)[j * 5 + i]? := by rw [hx]
    rw [List.getElem?_take_of_lt (by omega), flatE_get l j e hj i v hi, Array.getElem?_toList] at h1
    rw [cell_in, hh]
    simp [cellIn, h1]
section
variable {ops : Array Oper} {rest : List Oper} {o : Oper} {a : Act} {w : World} {Q : Exit → Act → World → Prop}
/-- 'append(v, e)'. -/
theorem append_ev (base : Nat) (v : Value) (l : List Ev) (e : Ev) (s x : Operand) (cp : Nat)
    (ho : o.op = .call { callee := .builtin .append, args := #[s, x], argTypes := #[22, 22] }) (hgd : o.guard = none) (hs : a.eval s = v)
    (hx : a.eval x = .slice (some ⟨w.heap.size, 0, none⟩) 1 cp) (hown : ownsEl w base v l) (hlen : l.length ≤ 1099511627776) (hbase : base ≤ w.heap.size)
    (h : ∀ v' w', ownsEl w' base v' (l ++ [e]) → w.grownBy w' v.ownBlock → v' ≠ .slice none 0 0 → wpList Tryz.prog ops Q rest (a.put o.dst v') w') :
    wpList Tryz.prog ops Q (o :: rest) a (w.alloc (.cells #[.int .i64 e.kind, .string e.subject, .string e.table, .string e.row, .string e.value] 51)) := by
  obtain ⟨i0, hi, hz0, hz1, hz2⟩ := info_parts infoE
  refine wpList_append_own_at _ hgd s x 22 ho base 51 i0 (.agg (evV ⟨0, ⟨#[]⟩, ⟨#[]⟩, ⟨#[]⟩, ⟨#[]⟩⟩)) 5 72 Tryz.underlying22 hi hz0 hz1 hz2 rfl (by decide) v l.length (flatE l) hs (World.ownsRow.alloc hown _)
    ⟨w.heap.size, 0, none⟩ 1 cp (evVs e) hx rfl ?_ (by intro u hu; simp [evVs] at hu; rcases hu with rfl | rfl | rfl | rfl | rfl <;> rfl) (by unfold maxLen; omega) (by omega) (by simp; omega) ?_
  · intro j u hj
    have hadd : (⟨w.heap.size, 0, none⟩ : Addr).add j = ⟨w.heap.size, j, none⟩ := by unfold Addr.add; split <;> simp_all
    rw [hadd, World.cell?_alloc_new, show #[Value.int .i64 e.kind, .string e.subject, .string e.table, .string e.row, .string e.value] = (evVs e).toArray from rfl, List.getElem?_toArray]
    exact hj
  · intro v' w' h1 h2 h3 _
    refine h v' w' ?_ ((World.grownBy_alloc w _ _).trans h2) (fun e => by have := (h3.1 e).2; omega)
    unfold ownsEl
    rw [flatE_append, List.length_append]
    exact h1
end
end Go.Proofs.YtgckpfeeioljeaaGreatDoor
