/- Arguments as data: slices of acts (oubliettelaw.Act). -/
import Derived.Test.YtnmpchojhbmbmaaGreatDoorProg
import Derived.Test.YtnmpchojhbmbmaaGreatDoorG8
import Derived.Deep.Slices
import Derived.ProofKit
namespace Go.Proofs.YtnmpchojhbmbmaaGreatDoor
open Go.ChangeShapes Go.WideShapes Go.ChangeAt Go.RowKit

structure ActD where
  what : Int
  gen : Int
  subject : ByteArray
instance : Inhabited ActD := ⟨⟨0, 0, ⟨#[]⟩⟩⟩
/-- An act's cells. -/
def actVs (e : ActD) : List Value := [.int .i64 e.what, .int .i64 e.gen, .string e.subject]
theorem addr_add (b o j : Nat) : (⟨b, o, none⟩ : Addr).add j = ⟨b, o + j, none⟩ := by unfold Addr.add; split <;> simp_all
/-- A slice of acts. -/
def actsAt (w : World) (p : Option Addr) (l : List ActD) : Prop :=
  l = [] ∨ ∃ g o, p = some ⟨g, o, none⟩ ∧ g < w.heap.size ∧ ∀ j e, l[j]? = some e → ∀ i v, (actVs e)[i]? = some v → w.cell? ⟨g, o + j * 3 + i, none⟩ = some v
theorem actsAt_of {w w' : World} {p : Option Addr} {l : List ActD} (h : actsAt w p l) (hh : ∀ k, k < w.heap.size → w'.heap[k]? = w.heap[k]?) (hs : w.heap.size ≤ w'.heap.size) : actsAt w' p l := by
  rcases h with h | ⟨g, o, rfl, hg, hc⟩
  · exact .inl h
  · exact .inr ⟨g, o, rfl, Nat.lt_of_lt_of_le hg hs, fun j e hj i v hi => by have := hc j e hj i v hi; rw [cell_in] at this ⊢; rw [hh g hg]; exact this⟩
section
variable {H : Type} {enc : TypeId × Value → H}
set_option maxRecDepth 100000 in
theorem act_of_trod {W : World} {n : Nat} {cs : List Value} {y : DataW H × List MemPlace} (h : DataW.trod enc Tryz.prog W 0 (fun _ => true) true n 37 cs = some y) : ∃ e : ActD, cs = actVs e := by
  have hs := Tryz.underlying37
  have hC : Tryz.prog.cellsOf 37 = 3 := by kernel_rfl
  cases n with
  | zero => simp [DataW.trod] at h
  | succ n =>
    obtain ⟨xs, m, _, _, hl, hlen, hf⟩ := DataW.trod_struct hs h
    rw [hC] at hl
    match cs, hl, xs, hlen with
    | [c0, c1, c2], _, [y0, y1, y2], _ =>
      have h0 := hf 0 _ rfl
      have h1 := hf 1 _ rfl
      have h2 := hf 2 _ rfl
      simp only [List.getElem?_cons_zero, List.getElem?_cons_succ] at h0 h1 h2
      obtain ⟨a0, e0, _⟩ := DataW.trod_int Tryz.underlying3 h0
      obtain ⟨a1, e1, _⟩ := DataW.trod_int Tryz.underlying3 h1
      obtain ⟨a2, e2, _⟩ := DataW.trod_string Tryz.underlying9 h2
      injection e0 with e0; injection e1 with e1; injection e2 with e2
      subst e0 e1 e2
      exact ⟨⟨a0, a1, a2⟩, rfl⟩
theorem acts_of_Trod {W : World} {q : Option Addr} {l c : Nat} {d : DataW H} {p : List MemPlace} (h : DataW.Trod enc Tryz.prog W 0 (fun _ => true) true 22 (.slice q l c) d p) :
    ∃ es : List ActD, l = es.length ∧ actsAt W q es ∧ l ≤ c ∧ c ≤ maxLen ∧ (q = none → l = 0 ∧ c = 0) := by
  have hC : Tryz.prog.cellsOf 37 = 3 := by kernel_rfl
  obtain ⟨fuel, hf⟩ := h
  rcases Go.Deep.open_slice Tryz.underlying22 hf with ⟨hcs, _⟩ | ⟨a, len, cap, m, n, D, Pl, hcs, _, hl, hm, hmm, _, hel⟩
  · simp [Value.cells] at hcs
    obtain ⟨rfl, rfl, rfl⟩ := hcs
    exact ⟨[], rfl, .inl rfl, Nat.le_refl _, Nat.zero_le _, fun _ => ⟨rfl, rfl⟩⟩
  · simp [Value.cells] at hcs
    obtain ⟨rfl, rfl, rfl⟩ := hcs
    simp only [if_true] at hmm
    subst hmm
    obtain ⟨E, hE⟩ := Go.Deep.choose_lt (α := Option ActD) (n := m) (p := fun i x => ∃ e, x = some e ∧ W.cells? 0 (a.add (i * 3)) 3 = some (actVs e)) (fun i hi => by
      obtain ⟨cs', h1, h2⟩ := hel i hi
      obtain ⟨e, rfl⟩ := act_of_trod h2
      rw [hC] at h1
      exact ⟨some e, e, rfl, h1⟩)
    have hE' : ∀ i, i < m → ∃ e, E i = some e ∧ ∀ t v, (actVs e)[t]? = some v → W.cell? (a.add (i * 3 + t)) = some v := fun i hi => by
      obtain ⟨e, he, hcells⟩ := hE i hi
      refine ⟨e, he, fun t v hv => ?_⟩
      have ht : t < 3 := (List.getElem?_eq_some_iff.1 hv).1
      rw [← Go.Deep.add_add, (World.cells?_some hcells).2.2 t ht]; exact hv
    have hlc : l ≤ m := hl
    refine ⟨(List.range l).map fun i => (E i).getD default, by simp, ?_, hl, hm, fun e => by cases e⟩
    by_cases h0 : l = 0
    · left; subst h0; rfl
    · right
      obtain ⟨b, off, spot⟩ := a
      have hspot : spot = none := by
        obtain ⟨e, he, hc⟩ := hE' 0 (by omega)
        have := hc 0 (.int .i64 e.what) rfl
        simpa [Addr.add] using World.cell?_spot this
      subst hspot
      have hb : b < W.heap.size := by
        obtain ⟨e, he, hc⟩ := hE' 0 (by omega)
        have := hc 0 (.int .i64 e.what) rfl
        rw [addr_add] at this
        exact block_lt_of_cell this
      refine ⟨b, off, rfl, hb, fun j e hj i v hv => ?_⟩
      have hjl : j < l := by have := (List.getElem?_eq_some_iff.1 hj).1; simpa using this
      obtain ⟨e', he', hc⟩ := hE' j (by omega)
      have : e' = e := by
        rw [List.getElem?_map, List.getElem?_range hjl] at hj
        simpa [he'] using hj
      subst this
      have := hc i v hv
      rw [addr_add] at this
      rw [Nat.add_assoc]; exact this
end
end Go.Proofs.YtnmpchojhbmbmaaGreatDoor
