/- Slices of events that the call owns: appended to. -/
import Derived.Test.YtjjadgcpmfmlfaaDoorProg
import Derived.Test.YtjjadgcpmfmlfaaDoorArgE
import Derived.Test.YtjjadgcpmfmlfaaDoorTabR
import Derived.Maps.AppendAt
namespace Go.Proofs.YtjjadgcpmfmlfaaDoor
open Go.RowKit Go.Shelf

/-- Events' cells, one behind the other. -/
def flatE (l : List Ev) : List Value := l.flatMap evVs
theorem flatE_length : ∀ l : List Ev, (flatE l).length = l.length * 5
  | [] => rfl
  | c :: l => by
    have h : flatE (c :: l) = evVs c ++ flatE l := rfl
    rw [h, List.length_append, flatE_length l]
    simp [evVs]; omega
theorem flatE_append (l m : List Ev) : flatE (l ++ m) = flatE l ++ flatE m := List.flatMap_append
theorem flatE_get : ∀ (l : List Ev) (j : Nat) (e : Ev), l[j]? = some e → ∀ i v, (evVs e)[i]? = some v → (flatE l)[j * 5 + i]? = some v
  | [], j, e, h, _, _, _ => by simp at h
  | c :: l, 0, e, h, i, v, hv => by
    simp only [List.getElem?_cons_zero, Option.some.injEq] at h
    subst h
    have hi : i < 5 := (List.getElem?_eq_some_iff.1 hv).1
    show (evVs c ++ flatE l)[0 * 5 + i]? = some v
    rw [List.getElem?_append_left (by simp [evVs]; omega), Nat.zero_mul, Nat.zero_add]
    exact hv
  | c :: l, j + 1, e, h, i, v, hv => by
    simp only [List.getElem?_cons_succ] at h
    show (evVs c ++ flatE l)[(j + 1) * 5 + i]? = some v
    rw [List.getElem?_append_right (by simp [evVs]; omega)]
    have hl : (evVs c).length = 5 := rfl
    rw [hl, show (j + 1) * 5 + i - 5 = j * 5 + i by omega]
    exact flatE_get l j e h i v hv
/-- A slice of events of the call's own. -/
def ownsEl (w : World) (base : Nat) (v : Value) (l : List Ev) : Prop := w.ownsRow base 54 5 v l.length (flatE l)
theorem ownsEl_nil (w : World) (base : Nat) : ownsEl w base (.slice none 0 0) [] := ⟨rfl, .inl ⟨rfl, rfl⟩⟩
theorem infoE : (Tryd.prog.info? 54).map (fun i => (i.zero, i.size, i.bytes)) = some (some (.agg (evV ⟨0, ⟨#[]⟩, ⟨#[]⟩, ⟨#[]⟩, ⟨#[]⟩⟩)), 5, 72) := by kernel_rfl
theorem ownsEl.kept {w w' : World} {base : Nat} {v : Value} {l : List Ev} {row : Option Nat} (h : ownsEl w base v l) (hg : w.grownBy w' row) (hne : ∀ g, v.ownBlock = some g → some g ≠ row) : ownsEl w' base v l := by
  obtain ⟨h1, ⟨rfl, h2⟩ | ⟨g, cap, cur, rfl, hb, hh, h3⟩⟩ := h
  · exact ⟨h1, .inl ⟨rfl, h2⟩⟩
  · exact ⟨h1, .inr ⟨g, cap, cur, rfl, hb, (hg.block g (lt_of_heap hh) (hne g rfl)).trans hh, h3⟩⟩
theorem ownsEl.base {w : World} {base : Nat} {v : Value} {l : List Ev} (h : ownsEl w base v l) {g : Nat} (hg : v.ownBlock = some g) : base ≤ g ∧ g < w.heap.size := by
  obtain ⟨h1, ⟨rfl, h2⟩ | ⟨g', cap, cur, rfl, hb, hh, h3⟩⟩ := h
  · simp [Value.ownBlock] at hg
  · simp only [Value.ownBlock, Option.some.injEq] at hg
    subst hg
    exact ⟨hb, lt_of_heap hh⟩
theorem ownsEl_shape {w : World} {base : Nat} {v : Value} {l : List Ev} (h : ownsEl w base v l) : ∃ q cap, v = .slice q l.length cap := by
  obtain ⟨_, ⟨h1, h2⟩ | ⟨g, cap, cur, h1, _⟩⟩ := h
  · exact ⟨none, 0, by rw [h1, h2]⟩
  · exact ⟨some ⟨g, 0, none⟩, cap, h1⟩
theorem evsAt_owned {w : World} {base : Nat} {q : Option Addr} {n cap : Nat} {l : List Ev} (h : ownsEl w base (.slice q n cap) l) : evsAt w q l := by
  obtain ⟨_, ⟨h1, h2⟩ | ⟨g, cap', cur, h1, _, hh, _, _, _, hx⟩⟩ := h
  · exact .inl (List.length_eq_zero_iff.1 h2)
  · cases h1
    refine .inr ⟨g, 0, rfl, lt_of_heap hh, fun j e hj i v hi => ?_⟩
    have hjl := (List.getElem?_eq_some_iff.1 hj).1
    have hi5 : i < 5 := (List.getElem?_eq_some_iff.1 hi).1
    have h1 : (cur.toList.take (l.length * 5))[j * 5 + i]? = (flatE l)[j * 5 + i]? := by rw [hx]
    rw [List.getElem?_take_of_lt (by omega), flatE_get l j e hj i v hi, Array.getElem?_toList] at h1
    rw [cell_in, hh]
    simp [cellIn, h1]
section
variable {ops : Array Oper} {rest : List Oper} {o : Oper} {a : Act} {w : World} {Q : Exit → Act → World → Prop}
/-- 'append(v, e)'. -/
theorem append_ev (base : Nat) (v : Value) (l : List Ev) (e : Ev) (s x : Operand) (cp : Nat)
    (ho : o.op = .call { callee := .builtin .append, args := #[s, x], argTypes := #[71, 71] }) (hgd : o.guard = none) (hs : a.eval s = v)
    (hx : a.eval x = .slice (some ⟨w.heap.size, 0, none⟩) 1 cp) (hown : ownsEl w base v l) (hlen : l.length ≤ 1099511627776) (hbase : base ≤ w.heap.size)
    (h : ∀ v' w', ownsEl w' base v' (l ++ [e]) → w.grownBy w' v.ownBlock → v' ≠ .slice none 0 0 → wpList Tryd.prog ops Q rest (a.put o.dst v') w') :
    wpList Tryd.prog ops Q (o :: rest) a (w.alloc (.cells #[.int .i64 e.kind, .string e.subject, .string e.table, .string e.row, .string e.value] 54)) := by
  obtain ⟨i0, hi, hz0, hz1, hz2⟩ := info_parts infoE
  refine wpList_append_own_at _ hgd s x 71 ho base 54 i0 (.agg (evV ⟨0, ⟨#[]⟩, ⟨#[]⟩, ⟨#[]⟩, ⟨#[]⟩⟩)) 5 72 Tryd.underlying71 hi hz0 hz1 hz2 rfl (by decide) v l.length (flatE l) hs (World.ownsRow.alloc hown _)
    ⟨w.heap.size, 0, none⟩ 1 cp (evVs e) hx rfl ?_ (by intro u hu; simp [evVs] at hu; rcases hu with rfl | rfl | rfl | rfl | rfl <;> rfl) (by unfold maxLen; omega) (by omega) (by simp; omega) ?_
  · intro j u hj
    have hadd : (⟨w.heap.size, 0, none⟩ : Addr).add j = ⟨w.heap.size, j, none⟩ := by unfold Addr.add; split <;> simp_all
    rw [hadd, World.cell?_alloc_new, show #[Value.int .i64 e.kind, .string e.subject, .string e.table, .string e.row, .string e.value] = (evVs e).toArray from rfl, List.getElem?_toArray]
    exact hj
  · intro v' w' h1 h2 h3 _
    refine h v' w' ?_ ((World.grownBy_alloc w _ _).trans h2) (fun e => by have := (h3.1 e).2; omega)
    unfold ownsEl
    rw [flatE_append, List.length_append]
    exact h1
end
end Go.Proofs.YtjjadgcpmfmlfaaDoor
