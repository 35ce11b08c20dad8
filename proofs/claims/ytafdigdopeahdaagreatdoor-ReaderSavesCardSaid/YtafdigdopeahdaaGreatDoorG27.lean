/- Arguments as data: slices of events. · Slices of events that the call owns: appended to. -/
import Derived.Test.YtafdigdopeahdaaGreatDoorProg
import Derived.Test.YtafdigdopeahdaaGreatDoorG26
import Derived.Test.YtafdigdopeahdaaGreatDoorG4
import Derived.Deep.Slices
import Derived.ProofKit
import Derived.Test.YtafdigdopeahdaaGreatDoorG21
import Derived.Maps.AppendAt
namespace Go.Proofs.YtafdigdopeahdaaGreatDoor
open Go.ChangeShapes Go.WideShapes Go.ChangeAt Go.RowKit

instance : Inhabited Ev := ⟨⟨0, ⟨#[]⟩, ⟨#[]⟩, ⟨#[]⟩, ⟨#[]⟩⟩⟩
/-- An event's cells. -/
def evVs (e : Ev) : List Value := [.int .i64 e.kind, .string e.subject, .string e.table, .string e.row, .string e.value]
theorem addr_add (b o j : Nat) : (⟨b, o, none⟩ : Addr).add j = ⟨b, o + j, none⟩ := by unfold Addr.add; split <;> simp_all
/-- A slice of events. -/
def evsAt (w : World) (p : Option Addr) (l : List Ev) : Prop :=
  l = [] ∨ ∃ g o, p = some ⟨g, o, none⟩ ∧ g < w.heap.size ∧ ∀ j e, l[j]? = some e → ∀ i v, (evVs e)[i]? = some v → w.cell? ⟨g, o + j * 5 + i, none⟩ = some v
theorem evsAt_of {w w' : World} {p : Option Addr} {l : List Ev} (h : evsAt w p l) (hh : ∀ k, k < w.heap.size → w'.heap[k]? = w.heap[k]?) (hs : w.heap.size ≤ w'.heap.size) : evsAt w' p l := by
  rcases h with h | ⟨g, o, rfl, hg, hc⟩
  · exact .inl h
  · exact .inr ⟨g, o, rfl, Nat.lt_of_lt_of_le hg hs, fun j e hj i v hi => by have := hc j e hj i v hi; rw [cell_in] at this ⊢; rw [hh g hg]; exact this⟩
section
variable {H : Type} {enc : TypeId × Value → H}
set_option maxRecDepth 100000 in
theorem ev_of_trod {W : World} {n : Nat} {cs : List Value} {y : DataW H × List MemPlace} (h : DataW.trod enc Tryz.prog W 0 (fun _ => true) true n 40 cs = some y) : ∃ e : Ev, cs = evVs e := by
  have hs := Tryz.underlying40
  have hC : Tryz.prog.cellsOf 40 = 5 := by kernel_rfl
  cases n with
  | zero => simp [DataW.trod] at h
  | succ n =>
    obtain ⟨xs, m, _, _, hl, hlen, hf⟩ := DataW.trod_struct hs h
    rw [hC] at hl
    match cs, hl, xs, hlen with
    | [c0, c1, c2, c3, c4], _, [y0, y1, y2, y3, y4], _ =>
      have h0 := hf 0 _ rfl
      have h1 := hf 1 _ rfl
      have h2 := hf 2 _ rfl
      have h3 := hf 3 _ rfl
      have h4 := hf 4 _ rfl
      simp only [List.getElem?_cons_zero, List.getElem?_cons_succ] at h0 h1 h2 h3 h4
      obtain ⟨a0, e0, _⟩ := DataW.trod_int Tryz.underlying3 h0
      obtain ⟨a1, e1, _⟩ := DataW.trod_string Tryz.underlying9 h1
      obtain ⟨a2, e2, _⟩ := DataW.trod_string Tryz.underlying9 h2
      obtain ⟨a3, e3, _⟩ := DataW.trod_string Tryz.underlying9 h3
      obtain ⟨a4, e4, _⟩ := DataW.trod_string Tryz.underlying9 h4
      injection e0 with e0; injection e1 with e1; injection e2 with e2; injection e3 with e3; injection e4 with e4
      subst e0 e1 e2 e3 e4
      exact ⟨⟨a0, a1, a2, a3, a4⟩, rfl⟩
theorem evs_of_Trod {W : World} {q : Option Addr} {l c : Nat} {d : DataW H} {p : List MemPlace} (h : DataW.Trod enc Tryz.prog W 0 (fun _ => true) true 22 (.slice q l c) d p) :
    ∃ es : List Ev, l = es.length ∧ evsAt W q es ∧ l ≤ c ∧ c ≤ maxLen ∧ (q = none → l = 0 ∧ c = 0) := by
  have hC : Tryz.prog.cellsOf 40 = 5 := by kernel_rfl
  obtain ⟨fuel, hf⟩ := h
  rcases Go.Deep.open_slice Tryz.underlying22 hf with ⟨hcs, _⟩ | ⟨a, len, cap, m, n, D, Pl, hcs, _, hl, hm, hmm, _, hel⟩
  · simp [Value.cells] at hcs
    obtain ⟨rfl, rfl, rfl⟩ := hcs
    exact ⟨[], rfl, .inl rfl, Nat.le_refl _, Nat.zero_le _, fun _ => ⟨rfl, rfl⟩⟩
  · simp [Value.cells] at hcs
    obtain ⟨rfl, rfl, rfl⟩ := hcs
    simp only [if_true] at hmm
    subst hmm
    obtain ⟨E, hE⟩ := Go.Deep.choose_lt (α := Option Ev) (n := m) (p := fun i x => ∃ e, x = some e ∧ W.cells? 0 (a.add (i * 5)) 5 = some (evVs e)) (fun i hi => by
      obtain ⟨cs', h1, h2⟩ := hel i hi
      obtain ⟨e, rfl⟩ := ev_of_trod h2
      rw [hC] at h1
      exact ⟨some e, e, rfl, h1⟩)
    have hE' : ∀ i, i < m → ∃ e, E i = some e ∧ ∀ t v, (evVs e)[t]? = some v → W.cell? (a.add (i * 5 + t)) = some v := fun i hi => by
      obtain ⟨e, he, hcells⟩ := hE i hi
      refine ⟨e, he, fun t v hv => ?_⟩
      have ht : t < 5 := (List.getElem?_eq_some_iff.1 hv).1
      rw [← Go.Deep.add_add, (World.cells?_some hcells).2.2 t ht]; exact hv
    have hlc : l ≤ m := hl
    refine ⟨(List.range l).map fun i => (E i).getD default, by simp, ?_, hl, hm, fun e => by cases e⟩
    by_cases h0 : l = 0
    · left; subst h0; rfl
    · right
      obtain ⟨b, off, spot⟩ := a
      have hspot : spot = none := by
        obtain ⟨e, he, hc⟩ := hE' 0 (by omega)
        have := hc 0 (.int .i64 e.kind) rfl
        simpa [Addr.add] using World.cell?_spot this
      subst hspot
      have hb : b < W.heap.size := by
        obtain ⟨e, he, hc⟩ := hE' 0 (by omega)
        have := hc 0 (.int .i64 e.kind) rfl
        rw [addr_add] at this
        exact block_lt_of_cell this
      refine ⟨b, off, rfl, hb, fun j e hj i v hv => ?_⟩
      have hjl : j < l := by have := (List.getElem?_eq_some_iff.1 hj).1; simpa using this
      obtain ⟨e', he', hc⟩ := hE' j (by omega)
      have : e' = e := by
        rw [List.getElem?_map, List.getElem?_range hjl] at hj
        simpa [he'] using hj
      subst this
      have := hc i v hv
      rw [addr_add] at this
      rw [Nat.add_assoc]; exact this
end
end Go.Proofs.YtafdigdopeahdaaGreatDoor
namespace Go.Proofs.YtafdigdopeahdaaGreatDoor
open Go.RowKit Go.Shelf

/-- Events' cells, one behind the other. -/
def flatE (l : List Ev) : List Value := l.flatMap evVs
theorem flatE_length : ∀ l : List Ev, (flatE l).length = l.length * 5
  | [] => rfl
  | c :: l => by
    have h : flatE (c :: l) = evVs c ++ flatE l := rfl
    rw [h, List.length_append, flatE_length l]
    simp [evVs]; omega
theorem flatE_append (l m : List Ev) : flatE (l ++ m) = flatE l ++ flatE m := List.flatMap_append
theorem flatE_get : ∀ (l : List Ev) (j : Nat) (e : Ev), l[j]? = some e → ∀ i v, (evVs e)[i]? = some v → (flatE l)[j * 5 + i]? = some v
  | [], j, e, h, _, _, _ => by simp at h
  | c :: l, 0, e, h, i, v, hv => by
    simp only [List.getElem?_cons_zero, Option.some.injEq] at h
    subst h
    have hi : i < 5 := (List.getElem?_eq_some_iff.1 hv).1
    show (evVs c ++ flatE l)[0 * 5 + i]? = some v
    rw [List.getElem?_append_left (by simp [evVs]; omega), Nat.zero_mul, Nat.zero_add]
    exact hv
  | c :: l, j + 1, e, h, i, v, hv => by
    simp only [List.getElem?_cons_succ] at h
    show (evVs c ++ flatE l)[(j + 1) * 5 + i]? = some v
    rw [List.getElem?_append_right (by simp [evVs]; omega)]
    have hl : (evVs c).length = 5 := rfl
    rw [hl, show (j + 1) * 5 + i - 5 = j * 5 + i by omega]
    exact flatE_get l j e h i v hv
/-- A slice of events of the call's own. -/
def ownsEl (w : World) (base : Nat) (v : Value) (l : List Ev) : Prop := w.ownsRow base 40 5 v l.length (flatE l)
theorem ownsEl_nil (w : World) (base : Nat) : ownsEl w base (.slice none 0 0) [] := ⟨rfl, .inl ⟨rfl, rfl⟩⟩
theorem infoE : (Tryz.prog.info? 40).map (fun i => (i.zero, i.size, i.bytes)) = some (some (.agg (evV ⟨0, ⟨#[]⟩, ⟨#[]⟩, ⟨#[]⟩, ⟨#[]⟩⟩)), 5, 72) := by kernel_rfl
theorem ownsEl.kept {w w' : World} {base : Nat} {v : Value} {l : List Ev} {row : Option Nat} (h : ownsEl w base v l) (hg : w.grownBy w' row) (hne : ∀ g, v.ownBlock = some g → some g ≠ row) : ownsEl w' base v l := by
  obtain ⟨h1, ⟨rfl, h2⟩ | ⟨g, cap, cur, rfl, hb, hh, h3⟩⟩ := h
  · exact ⟨h1, .inl ⟨rfl, h2⟩⟩
  · exact ⟨h1, .inr ⟨g, cap, cur, rfl, hb, (hg.block g (lt_of_heap hh) (hne g rfl)).trans hh, h3⟩⟩
theorem ownsEl.base {w : World} {base : Nat} {v : Value} {l : List Ev} (h : ownsEl w base v l) {g : Nat} (hg : v.ownBlock = some g) : base ≤ g ∧ g < w.heap.size := by
  obtain ⟨h1, ⟨rfl, h2⟩ | ⟨g', cap, cur, rfl, hb, hh, h3⟩⟩ := h
  · simp [Value.ownBlock] at hg
  · simp only [Value.ownBlock, Option.some.injEq] at hg
    subst hg
    exact ⟨hb, lt_of_heap hh⟩
theorem ownsEl_shape {w : World} {base : Nat} {v : Value} {l : List Ev} (h : ownsEl w base v l) : ∃ q cap, v = .slice q l.length cap := by
  obtain ⟨_, ⟨h1, h2⟩ | ⟨g, cap, cur, h1, _⟩⟩ := h
  · exact ⟨none, 0, by rw [h1, h2]⟩
  · exact ⟨some ⟨g, 0, none⟩, cap, h1⟩
theorem evsAt_owned {w : World} {base : Nat} {q : Option Addr} {n cap : Nat} {l : List Ev} (h : ownsEl w base (.slice q n cap) l) : evsAt w q l := by
  obtain ⟨_, ⟨h1, h2⟩ | ⟨g, cap', cur, h1, _, hh, _, _, _, hx⟩⟩ := h
  · exact .inl (List.length_eq_zero_iff.1 h2)
  · cases h1
    refine .inr ⟨g, 0, rfl, lt_of_heap hh, fun j e hj i v hi => ?_⟩
    have hjl := (List.getElem?_eq_some_iff.1 hj).1
    have hi5 : i < 5 := (List.getElem?_eq_some_iff.1 hi).1
    have h1 : (cur.toList.take (l.length * 5))[j * 5 + i]? = (flatE l)[j * 5 + i]? := by rw [hx]
    rw [List.getElem?_take_of_lt (by omega), flatE_get l j e hj i v hi, Array.getElem?_toList] at h1
    rw [cell_in, hh]
    simp [cellIn, h1]
section
variable {ops : Array Oper} {rest : List Oper} {o : Oper} {a : Act} {w : World} {Q : Exit → Act → World → Prop}
/-- 'append(v, e)'. -/
theorem append_ev (base : Nat) (v : Value) (l : List Ev) (e : Ev) (s x : Operand) (cp : Nat)
    (ho : o.op = .call { callee := .builtin .append, args := #[s, x], argTypes := #[22, 22] }) (hgd : o.guard = none) (hs : a.eval s = v)
    (hx : a.eval x = .slice (some ⟨w.heap.size, 0, none⟩) 1 cp) (hown : ownsEl w base v l) (hlen : l.length ≤ 1099511627776) (hbase : base ≤ w.heap.size)
    (h : ∀ v' w', ownsEl w' base v' (l ++ [e]) → w.grownBy w' v.ownBlock → v' ≠ .slice none 0 0 → wpList Tryz.prog ops Q rest (a.put o.dst v') w') :
    wpList Tryz.prog ops Q (o :: rest) a (w.alloc (.cells #[.int .i64 e.kind, .string e.subject, .string e.table, .string e.row, .string e.value] 40)) := by
  obtain ⟨i0, hi, hz0, hz1, hz2⟩ := info_parts infoE
  refine wpList_append_own_at _ hgd s x 22 ho base 40 i0 (.agg (evV ⟨0, ⟨#[]⟩, ⟨#[]⟩, ⟨#[]⟩, ⟨#[]⟩⟩)) 5 72 Tryz.underlying22 hi hz0 hz1 hz2 rfl (by decide) v l.length (flatE l) hs (World.ownsRow.alloc hown _)
    ⟨w.heap.size, 0, none⟩ 1 cp (evVs e) hx rfl ?_ (by intro u hu; simp [evVs] at hu; rcases hu with rfl | rfl | rfl | rfl | rfl <;> rfl) (by unfold maxLen; omega) (by omega) (by simp; omega) ?_
  · intro j u hj
    have hadd : (⟨w.heap.size, 0, none⟩ : Addr).add j = ⟨w.heap.size, j, none⟩ := by unfold Addr.add; split <;> simp_all
    rw [hadd, World.cell?_alloc_new, show #[Value.int .i64 e.kind, .string e.subject, .string e.table, .string e.row, .string e.value] = (evVs e).toArray from rfl, List.getElem?_toArray]
    exact hj
  · intro v' w' h1 h2 h3 _
    refine h v' w' ?_ ((World.grownBy_alloc w _ _).trans h2) (fun e => by have := (h3.1 e).2; omega)
    unfold ownsEl
    rw [flatE_append, List.length_append]
    exact h1
end
end Go.Proofs.YtafdigdopeahdaaGreatDoor
