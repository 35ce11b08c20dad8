/- Ranging over a map whose keys are texts. -/
import Derived.Test.YtnmpchojhbmbmaaGreatDoorProg
import Derived.Test.YtnmpchojhbmbmaaGreatDoorG2
namespace Go.Proofs.YtnmpchojhbmbmaaGreatDoor
open Go.RowKit Go.WideShapes

section
variable {t e : TypeId} {α : Type} {enc : α → Value} {dat : α → DataW Unit} {R : Value → Option (DataW Unit × List MemPlace)} {z : α}
structure rangeS (dat : α → DataW Unit) (R : Value → Option (DataW Unit × List MemPlace)) (w : World) (b r n : Nat) (M : List (ByteArray × α)) (left : Lit → Bool) (cnt : Nat) : Prop where
  own : ∃ es, w.ranges Tryz.prog 9 R b r n (.map es) left cnt ∧ es.Perm (M.map (entS dat))
  once : OnceS M
  small : ∀ p ∈ M, p.1.size ≤ maxLen
theorem rangeS.map {w : World} {b r n : Nat} {M : List (ByteArray × α)} {left : Lit → Bool} {cnt : Nat} (h : rangeS dat R w b r n M left cnt) : mapS dat R w b n M := by
  obtain ⟨es, hr, hp⟩ := h.own
  exact ⟨⟨es, hr.owns, hp⟩, h.once, h.small⟩
theorem rangeS.ne {w : World} {b r n : Nat} {M : List (ByteArray × α)} {left : Lit → Bool} {cnt : Nat} (h : rangeS dat R w b r n M left cnt) : r ≠ b := by
  obtain ⟨es, hr, hp⟩ := h.own
  exact hr.ne
theorem rangeS.lt {w : World} {b r n : Nat} {M : List (ByteArray × α)} {left : Lit → Bool} {cnt : Nat} (h : rangeS dat R w b r n M left cnt) : r < w.heap.size := by
  obtain ⟨es, hr, hp⟩ := h.own
  exact hr.lt
theorem rangeS.left_eq {w : World} {b r n : Nat} {M : List (ByteArray × α)} {left : Lit → Bool} {cnt : Nat} (h : rangeS dat R w b r n M left cnt) : w.rangeLeft b r = cnt := by
  obtain ⟨es, hr, hp⟩ := h.own
  exact hr.left_eq
theorem rangeS.kept {w w' : World} {b r n : Nat} {M : List (ByteArray × α)} {left : Lit → Bool} {cnt : Nat} {row : Option Nat} (h : rangeS dat R w b r n M left cnt) (hg : w.grownBy w' row) (h1 : some b ≠ row) (h2 : some r ≠ row) : rangeS dat R w' b r n M left cnt := by
  obtain ⟨es, hr, hp⟩ := h.own
  exact ⟨⟨es, hr.kept hg h1 h2, hp⟩, h.once, h.small⟩
theorem sameS (a b : ByteArray) : (Lit.string (txt a)).sameKey (.string (txt b)) = decide (txt a = txt b) := by
  unfold Lit.sameKey
  rw [Bool.eq_iff_iff, decide_eq_true_eq]
  simp
/-- 'range m'. -/
theorem mapS.range {w : World} {b n : Nat} {M : List (ByteArray × α)} (h : mapS dat R w b n M) (hu : Tryz.prog.underlying t = some (.map 9 e)) :
    ∃ w' left cnt, (Instr.range t (.map (some b))).run Tryz.prog w = .ok (.pointer (some ⟨w.heap.size, 0, none⟩)) w' ∧ rangeS dat R w' b w.heap.size n M left cnt ∧ (∀ p ∈ M, left (.string (txt p.1)) = true) ∧ w.grownBy w' none ∧ w'.heap.size = w.heap.size + 1 := by
  obtain ⟨es, hown, hp⟩ := h.own
  obtain ⟨w', hrun, hr, hg, hs⟩ := hown.range (t := t) (e := e) lawS hu
  refine ⟨w', _, _, hrun, ⟨⟨es, hr, hp⟩, h.once, h.small⟩, ?_, hg, hs⟩
  intro p hm
  refine List.any_eq_true.2 ⟨entS dat p, hp.mem_iff.2 (List.mem_map_of_mem hm), ?_⟩
  exact (sameS p.1 p.1).trans (by simp)
def strikeS (left : Lit → Bool) (k : ByteArray) : Lit → Bool := fun z => left z && !z.sameKey (.string (txt k))
/-- The step. -/
theorem rangeS.next (EL : ElemOf e α enc dat R z) {w : World} {b r n : Nat} {M : List (ByteArray × α)} {left : Lit → Bool} {cnt : Nat} (h : rangeS dat R w b r n M left cnt) (ty : TypeId) :
    (cnt = 0 ∧ (∀ kl, left kl = false) ∧ (Instr.next (.pointer (some ⟨r, 0, none⟩)) false ty).run Tryz.prog w = .ok (.tuple #[.bool false]) w) ∨
    ∃ p w' cnt', p ∈ M ∧ left (.string (txt p.1)) = true ∧ (Instr.next (.pointer (some ⟨r, 0, none⟩)) false ty).run Tryz.prog w = .ok (.tuple #[.bool true, .string p.1, enc p.2]) w' ∧
      rangeS dat R w' b r n M (strikeS left p.1) cnt' ∧ cnt' < cnt ∧ w.grownBy w' (some r) ∧ w'.heap.size = w.heap.size ∧ (Instr.entry (.pointer (some ⟨r, 0, none⟩))).run Tryz.prog w' = .ok (.tuple #[.string p.1, enc p.2]) w' := by
  obtain ⟨es, hr, hp⟩ := h.own
  rcases hr.next lawS ty with ⟨h0, hl, hrun⟩ | ⟨key, v, kl, y, w', cnt', hkey, hlk, hv, hat, hrun, hrg, hlt, hgr, hsz, hen⟩
  · exact .inl ⟨h0, hl, hrun⟩
  · right
    have h1 : ∃ p ∈ es, p.1.sameKey kl = true ∧ p.2 = y.1 := by
      have ha := hat (.lit (.bool true))
      have hb := hat (.lit (.bool false))
      unfold DataW.atKey at ha hb
      dsimp only at ha hb
      cases hf : es.find? fun p => p.1.sameKey kl with
      | none =>
        rw [hf] at ha hb
        have := ha.trans hb.symm
        simp at this
      | some p =>
        rw [hf] at ha
        exact ⟨p, List.mem_of_find?_eq_some hf, List.find?_some (p := fun p : Lit × DataW Unit => p.1.sameKey kl) hf, ha⟩
    obtain ⟨p, hpe, hpk, hpv⟩ := h1
    obtain ⟨c, hc, rfl⟩ := List.mem_map.1 (hp.mem_iff.1 hpe)
    have hkl : (entS dat c).1 = kl := WideAt.sameKey_eq hpk
    subst hkl
    have hk2 := lawS.inj hkey (keyS_of c.1 (h.small c hc))
    subst hk2
    obtain ⟨d, rfl, hy⟩ := EL.inv _ _ hv
    have hd : c.2 = d := EL.inj _ _ (by have := congrArg Prod.fst hy; exact hpv.trans this)
    subst hd
    exact ⟨c, w', cnt', hc, hlk, hrun, ⟨⟨es, hrg, hp⟩, h.once, h.small⟩, hlt, hgr, hsz, hen⟩
end
section
variable {ops : Array Oper} {rest : List Oper} {o : Oper} {a : Act} {w : World} {Q : Exit → Act → World → Prop}
variable {t e : TypeId} {α : Type} {enc : α → Value} {dat : α → DataW Unit} {R : Value → Option (DataW Unit × List MemPlace)} {z : α}
theorem wpList_range_texts (hg : o.guard = none) (m : Operand) (hop : o.op = Op.range t m) (hu : Tryz.prog.underlying t = some (.map 9 e)) (b n : Nat) (M : List (ByteArray × α)) (hm : a.eval m = .map (some b)) (h : mapS dat R w b n M)
    (hK : ∀ w' left cnt, rangeS dat R w' b w.heap.size n M left cnt → (∀ p ∈ M, left (.string (txt p.1)) = true) → w.grownBy w' none → w'.heap.size = w.heap.size + 1 → wpList Tryz.prog ops Q rest (a.put o.dst (.pointer (some ⟨w.heap.size, 0, none⟩))) w') :
    wpList Tryz.prog ops Q (o :: rest) a w := by
  refine wpList_plain hg fun K' hK' => ?_
  obtain ⟨w', left, cnt, hrun, r1, r2, r3, r4⟩ := h.range hu
  unfold Oper.wp
  simp [execOp, hop, hm, hrun, Result.andThen]
  exact hK' _ _ (hK w' left cnt r1 r2 r3 r4)
theorem wpList_next_texts (hg : o.guard = none) (it : Operand) (hop : o.op = Op.next it false) (EL : ElemOf e α enc dat R z) (b r n : Nat) (M : List (ByteArray × α)) (left : Lit → Bool) (cnt : Nat) (hit : a.eval it = .pointer (some ⟨r, 0, none⟩)) (h : rangeS dat R w b r n M left cnt)
    (hDone : cnt = 0 → (∀ kl, left kl = false) → wpList Tryz.prog ops Q rest (a.put o.dst (.tuple #[.bool false])) w)
    (hMore : ∀ (p : ByteArray × α) (w' : World) (cnt' : Nat), p ∈ M → left (.string (txt p.1)) = true → rangeS dat R w' b r n M (strikeS left p.1) cnt' → cnt' < cnt → w.grownBy w' (some r) → w'.heap.size = w.heap.size →
      (Instr.entry (.pointer (some ⟨r, 0, none⟩))).run Tryz.prog w' = .ok (.tuple #[.string p.1, enc p.2]) w' →
      wpList Tryz.prog ops Q rest (a.put o.dst (.tuple #[.bool true, .string p.1, enc p.2])) w') :
    wpList Tryz.prog ops Q (o :: rest) a w := by
  refine wpList_plain hg fun K' hK' => ?_
  unfold Oper.wp
  rcases h.next EL o.type with ⟨h0, hl, hrun⟩ | ⟨p, w', cnt', hc, hlk, hrun, hrg, hlt, hgr, hsz, hen⟩
  · simp [execOp, hop, hit, hrun, Result.andThen]
    exact hK' _ _ (hDone h0 hl)
  · simp [execOp, hop, hit, hrun, Result.andThen]
    exact hK' _ _ (hMore p w' cnt' hc hlk hrg hlt hgr hsz hen)
end
end Go.Proofs.YtnmpchojhbmbmaaGreatDoor
