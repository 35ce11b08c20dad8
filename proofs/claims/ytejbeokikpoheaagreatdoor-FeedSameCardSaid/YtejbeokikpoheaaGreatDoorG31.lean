/- slices.Clone at records and at events. -/
import Derived.Test.YtejbeokikpoheaaGreatDoorProg
import Derived.Test.YtejbeokikpoheaaGreatDoorG26
import Derived.Test.YtejbeokikpoheaaGreatDoorG28
import Derived.Test.YtejbeokikpoheaaGreatDoorG30
namespace Go.Proofs.YtejbeokikpoheaaGreatDoor
open Go.RowKit Go.Shelf

theorem flatRec_one (l : List Rec) : ∀ v ∈ flatRec l, v.oneCell' = true := by
  intro v hv
  obtain ⟨c, _, hv⟩ := List.mem_flatMap.1 hv
  simp [recVs] at hv
  rcases hv with rfl | rfl | rfl | rfl | rfl <;> rfl
theorem flatE_one (l : List Ev) : ∀ v ∈ flatE l, v.oneCell' = true := by
  intro v hv
  obtain ⟨c, _, hv⟩ := List.mem_flatMap.1 hv
  simp [evVs] at hv
  rcases hv with rfl | rfl | rfl | rfl | rfl <;> rfl
theorem flatRec_at (l : List Rec) (j : Nat) (u : Value) (h : (flatRec l)[j]? = some u) : ∃ x, l[j / 5]? = some x ∧ (recVs x)[j % 5]? = some u := by
  have hj := (List.getElem?_eq_some_iff.1 h).1
  rw [flatRec_length] at hj
  have hx := List.getElem?_eq_getElem (l := l) (i := j / 5) (by omega)
  refine ⟨_, hx, ?_⟩
  have h5 : j % 5 < (recVs l[j / 5]).length := by show j % 5 < 5; omega
  have := flatRec_get l (j / 5) _ hx (j % 5) _ (List.getElem?_eq_getElem h5)
  rw [show j / 5 * 5 + j % 5 = j by omega, h] at this
  rw [List.getElem?_eq_getElem h5]; exact this.symm
theorem flatE_at (l : List Ev) (j : Nat) (u : Value) (h : (flatE l)[j]? = some u) : ∃ x, l[j / 5]? = some x ∧ (evVs x)[j % 5]? = some u := by
  have hj := (List.getElem?_eq_some_iff.1 h).1
  rw [flatE_length] at hj
  have hx := List.getElem?_eq_getElem (l := l) (i := j / 5) (by omega)
  refine ⟨_, hx, ?_⟩
  have h5 : j % 5 < (evVs l[j / 5]).length := by show j % 5 < 5; omega
  have := flatE_get l (j / 5) _ hx (j % 5) _ (List.getElem?_eq_getElem h5)
  rw [show j / 5 * 5 + j % 5 = j by omega, h] at this
  rw [List.getElem?_eq_getElem h5]; exact this.symm
theorem recs_flat {w : World} {ad : Addr} {l : List Rec} (h : recsAt w (some ad) l) : ∀ j u, (flatRec l)[j]? = some u → ad.block < w.heap.size ∧ w.cell? (ad.add j) = some u := by
  intro j u hj
  obtain ⟨x, hx, hu⟩ := flatRec_at l j u hj
  rcases h with h | ⟨g, o, hq, hg, hc⟩
  · subst h; simp at hx
  · cases hq
    refine ⟨hg, ?_⟩
    rw [addr_add]
    have := hc (j / 5) x hx (j % 5) u hu
    rw [show o + j / 5 * 5 + j % 5 = o + j by omega] at this
    exact this
theorem evs_flat {w : World} {ad : Addr} {l : List Ev} (h : evsAt w (some ad) l) : ∀ j u, (flatE l)[j]? = some u → ad.block < w.heap.size ∧ w.cell? (ad.add j) = some u := by
  intro j u hj
  obtain ⟨x, hx, hu⟩ := flatE_at l j u hj
  rcases h with h | ⟨g, o, hq, hg, hc⟩
  · subst h; simp at hx
  · cases hq
    refine ⟨hg, ?_⟩
    rw [addr_add]
    have := hc (j / 5) x hx (j % 5) u hu
    rw [show o + j / 5 * 5 + j % 5 = o + j by omega] at this
    exact this
section
variable {ops : Array Oper} {rest : List Oper} {o : Oper} {a : Act} {w : World} {Q : Exit → Act → World → Prop}
/-- 'append(m, l...)' at records. -/
theorem append_recs (base : Nat) (v : Value) (s x : Operand) (m l : List Rec) (ad : Addr) (c : Nat)
    (ho : o.op = .call { callee := .builtin .append, args := #[s, x], argTypes := #[32, 32] }) (hgd : o.guard = none) (hs : a.eval s = v) (hx : a.eval x = .slice (some ad) l.length c)
    (hown : ownsRl w base v m) (hc : ∀ j u, (flatRec l)[j]? = some u → w.cell? (ad.add j) = some u) (hlen : m.length + l.length ≤ 1099511627776) (hbase : base ≤ w.heap.size)
    (h : ∀ v' w', ownsRl w' base v' (m ++ l) → w.grownBy w' v.ownBlock → wpList Tryz.prog ops Q rest (a.put o.dst v') w') :
    wpList Tryz.prog ops Q (o :: rest) a w := by
  obtain ⟨i0, hi, hz0, hz1, hz2⟩ := info_parts infoRec
  refine wpList_append_own_at _ hgd s x 32 ho base 36 i0 (.agg (recV zeroR)) 5 64 Tryz.underlying32 hi hz0 hz1 hz2 rfl (by decide) v m.length (flatRec m) hs hown
    ad l.length c (flatRec l) hx (flatRec_length l) hc (flatRec_one l) (by unfold maxLen; omega) (by omega) hbase ?_
  intro v' w' h1 h2 _ _
  refine h v' w' ?_ h2
  unfold ownsRl
  rw [flatRec_append, List.length_append]
  exact h1
/-- 'append(m, l...)' at events. -/
theorem append_evs (base : Nat) (v : Value) (s x : Operand) (m l : List Ev) (ad : Addr) (c : Nat)
    (ho : o.op = .call { callee := .builtin .append, args := #[s, x], argTypes := #[22, 22] }) (hgd : o.guard = none) (hs : a.eval s = v) (hx : a.eval x = .slice (some ad) l.length c)
    (hown : ownsEl w base v m) (hc : ∀ j u, (flatE l)[j]? = some u → w.cell? (ad.add j) = some u) (hlen : m.length + l.length ≤ 1099511627776) (hbase : base ≤ w.heap.size)
    (h : ∀ v' w', ownsEl w' base v' (m ++ l) → w.grownBy w' v.ownBlock → wpList Tryz.prog ops Q rest (a.put o.dst v') w') :
    wpList Tryz.prog ops Q (o :: rest) a w := by
  obtain ⟨i0, hi, hz0, hz1, hz2⟩ := info_parts infoE
  refine wpList_append_own_at _ hgd s x 22 ho base 31 i0 (.agg (evV ⟨0, ⟨#[]⟩, ⟨#[]⟩, ⟨#[]⟩, ⟨#[]⟩⟩)) 5 72 Tryz.underlying22 hi hz0 hz1 hz2 rfl (by decide) v m.length (flatE m) hs hown
    ad l.length c (flatE l) hx (flatE_length l) hc (flatE_one l) (by unfold maxLen; omega) (by omega) hbase ?_
  intro v' w' h1 h2 _ _
  refine h v' w' ?_ h2
  unfold ownsEl
  rw [flatE_append, List.length_append]
  exact h1
end
set_option maxRecDepth 100000 in
theorem cloneR_any (q : Option Addr) (cp : Nat) (l : List Rec) (w : World) (h : recsAt w q l) (hl : l.length ≤ 1048576) :
    Calls Tryz.prog 39 #[.slice q l.length cp] w fun r w' => ∃ v, r = .returned v ∧ ownsRl w' w.heap.size v l ∧ Below w.heap.size w w' := by
  have q22 : ∀ (w : World) (a : Option Addr) (n c n' c' : Nat), (binOp .eql 32 (.slice a n c) (.slice none n' c')).run Tryz.prog w = .ok (.bool a.isNone) w := fun w a n c n' c' => Lib.run_eql_slice_nil w _ _ a n c n' c' Tryz.underlying32
  cases q with
  | none =>
    have h0 : l = [] := by
      rcases h with h | ⟨g, o, hq, _⟩
      · exact h
      · cases hq
    subst h0
    clear h hl
    go_enter Tryz.func39, Tryz.ntmps39
    go_wp2_with fail
    go_ret
    exact ⟨_, rfl, ownsRl_nil _ _, Below.refl _ _⟩
  | some ad =>
    have hc : ∀ j u, (flatRec l)[j]? = some u → (w.alloc (.cells #[] 36)).cell? (ad.add j) = some u := fun j u hj => (recs_flat (recsAt_of h (fun k hk => heap_alloc_old _ _ hk) (by simp)) j u hj).2
    have HC := Lib.hid hc
    have O0 : ownsRl (w.alloc (.cells #[] 36)) w.heap.size (.slice (some ⟨w.heap.size, 0, none⟩) 0 0) [] := ⟨rfl, .inr ⟨w.heap.size, 0, #[], rfl, Nat.le_refl _, heap_alloc_at _ _, Nat.le_refl _, Nat.zero_le _, rfl, rfl⟩⟩
    have O0 := Lib.hid O0
    have hsz : w.heap.size ≤ (w.alloc (.cells #[] 36)).heap.size := by simp
    have B0 := Lib.hid ((Below.refl w.heap.size w).alloc (Nat.le_refl _) (.cells #[] 36))
    clear hc h
    go_enter Tryz.func39, Tryz.ntmps39
    go_wp2_with (at_builtin; go_must (refine append_recs w.heap.size _ (.tmp 5) (.tmp 6) [] l ad cp rfl rfl rfl rfl O0.out HC.out (by simp; omega) hsz ?_); intro v' w' OWn g')
    go_ret
    exact ⟨_, rfl, OWn, B0.out.grown g' hsz (fun j hj => by cases hj; exact Nat.le_refl _)⟩
set_option maxRecDepth 100000 in
theorem cloneE_any (q : Option Addr) (cp : Nat) (l : List Ev) (w : World) (h : evsAt w q l) (hl : l.length ≤ 1048576) :
    Calls Tryz.prog 7 #[.slice q l.length cp] w fun r w' => ∃ v, r = .returned v ∧ ownsEl w' w.heap.size v l ∧ Below w.heap.size w w' := by
  have q22 : ∀ (w : World) (a : Option Addr) (n c n' c' : Nat), (binOp .eql 22 (.slice a n c) (.slice none n' c')).run Tryz.prog w = .ok (.bool a.isNone) w := fun w a n c n' c' => Lib.run_eql_slice_nil w _ _ a n c n' c' Tryz.underlying22
  cases q with
  | none =>
    have h0 : l = [] := by
      rcases h with h | ⟨g, o, hq, _⟩
      · exact h
      · cases hq
    subst h0
    clear h hl
    go_enter Tryz.func7, Tryz.ntmps7
    go_wp2_with fail
    go_ret
    exact ⟨_, rfl, ownsEl_nil _ _, Below.refl _ _⟩
  | some ad =>
    have hc : ∀ j u, (flatE l)[j]? = some u → (w.alloc (.cells #[] 31)).cell? (ad.add j) = some u := fun j u hj => (evs_flat (evsAt_of h (fun k hk => heap_alloc_old _ _ hk) (by simp)) j u hj).2
    have HC := Lib.hid hc
    have O0 : ownsEl (w.alloc (.cells #[] 31)) w.heap.size (.slice (some ⟨w.heap.size, 0, none⟩) 0 0) [] := ⟨rfl, .inr ⟨w.heap.size, 0, #[], rfl, Nat.le_refl _, heap_alloc_at _ _, Nat.le_refl _, Nat.zero_le _, rfl, rfl⟩⟩
    have O0 := Lib.hid O0
    have hsz : w.heap.size ≤ (w.alloc (.cells #[] 31)).heap.size := by simp
    have B0 := Lib.hid ((Below.refl w.heap.size w).alloc (Nat.le_refl _) (.cells #[] 31))
    clear hc h
    go_enter Tryz.func7, Tryz.ntmps7
    go_wp2_with (at_builtin; go_must (refine append_evs w.heap.size _ (.tmp 5) (.tmp 6) [] l ad cp rfl rfl rfl rfl O0.out HC.out (by simp; omega) hsz ?_); intro v' w' OWn g')
    go_ret
    exact ⟨_, rfl, OWn, B0.out.grown g' hsz (fun j hj => by cases hj; exact Nat.le_refl _)⟩
end Go.Proofs.YtejbeokikpoheaaGreatDoor
