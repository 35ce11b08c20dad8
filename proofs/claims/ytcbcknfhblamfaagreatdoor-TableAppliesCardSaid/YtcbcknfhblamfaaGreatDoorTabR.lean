/- Ranging over a table's map. -/
import Derived.Test.YtcbcknfhblamfaaGreatDoorProg
import Derived.Test.YtcbcknfhblamfaaGreatDoorTabM
namespace Go.Proofs.YtcbcknfhblamfaaGreatDoor
open Go.RowKit Go.WideShapes

structure rangeAt (w : World) (b r n : Nat) (T : List Cell) (left : Lit → Bool) (cnt : Nat) : Prop where
  own : ∃ es, w.ranges Tryz.prog 54 cellR b r n (.map es) left cnt ∧ es.Perm (T.map ent)
  once : Once T
  small : ∀ c ∈ T, smallC c
theorem rangeAt.map {w : World} {b r n : Nat} {T : List Cell} {left : Lit → Bool} {cnt : Nat} (h : rangeAt w b r n T left cnt) : mapAt w b n T := by
  obtain ⟨es, hr, hp⟩ := h.own
  exact ⟨⟨es, hr.owns, hp⟩, h.once, h.small⟩
theorem rangeAt.ne {w : World} {b r n : Nat} {T : List Cell} {left : Lit → Bool} {cnt : Nat} (h : rangeAt w b r n T left cnt) : r ≠ b := by
  obtain ⟨es, hr, hp⟩ := h.own
  exact hr.ne
theorem rangeAt.lt {w : World} {b r n : Nat} {T : List Cell} {left : Lit → Bool} {cnt : Nat} (h : rangeAt w b r n T left cnt) : r < w.heap.size := by
  obtain ⟨es, hr, hp⟩ := h.own
  exact hr.lt
theorem rangeAt.left_eq {w : World} {b r n : Nat} {T : List Cell} {left : Lit → Bool} {cnt : Nat} (h : rangeAt w b r n T left cnt) : w.rangeLeft b r = cnt := by
  obtain ⟨es, hr, hp⟩ := h.own
  exact hr.left_eq
theorem rangeAt.kept {w w' : World} {b r n : Nat} {T : List Cell} {left : Lit → Bool} {cnt : Nat} {row : Option Nat} (h : rangeAt w b r n T left cnt) (hg : w.grownBy w' row) (h1 : some b ≠ row) (h2 : some r ≠ row) : rangeAt w' b r n T left cnt := by
  obtain ⟨es, hr, hp⟩ := h.own
  exact ⟨⟨es, hr.kept hg h1 h2, hp⟩, h.once, h.small⟩
/-- 'range m'. -/
theorem mapAt.range {w : World} {b n : Nat} {T : List Cell} (h : mapAt w b n T) :
    ∃ w' left cnt, (Instr.range 28 (.map (some b))).run Tryz.prog w = .ok (.pointer (some ⟨w.heap.size, 0, none⟩)) w' ∧ rangeAt w' b w.heap.size n T left cnt ∧ (∀ c ∈ T, left (keyLit (ck c)) = true) ∧ w.grownBy w' none ∧ w'.heap.size = w.heap.size + 1 := by
  obtain ⟨es, hown, hp⟩ := h.own
  obtain ⟨w', hrun, hr, hg, hs⟩ := hown.range (t := 28) (e := 44) lawA Tryz.underlying28
  refine ⟨w', _, _, hrun, ⟨⟨es, hr, hp⟩, h.once, h.small⟩, ?_, hg, hs⟩
  intro c hc
  exact List.any_eq_true.2 ⟨ent c, hp.mem_iff.2 (List.mem_map_of_mem hc), (sameKey_lit _ _).2 rfl⟩
def strike (left : Lit → Bool) (c : Cell) : Lit → Bool := fun z => left z && !z.sameKey (keyLit (ck c))
/-- The step. -/
theorem rangeAt.next {w : World} {b r n : Nat} {T : List Cell} {left : Lit → Bool} {cnt : Nat} (h : rangeAt w b r n T left cnt) (ty : TypeId) :
    (cnt = 0 ∧ (∀ kl, left kl = false) ∧ (Instr.next (.pointer (some ⟨r, 0, none⟩)) false ty).run Tryz.prog w = .ok (.tuple #[.bool false]) w) ∨
    ∃ c w' cnt', c ∈ T ∧ left (keyLit (ck c)) = true ∧ (Instr.next (.pointer (some ⟨r, 0, none⟩)) false ty).run Tryz.prog w = .ok (.tuple #[.bool true, .agg #[.string c.table, .string c.row], .agg (cellA c)]) w' ∧
      rangeAt w' b r n T (strike left c) cnt' ∧ cnt' < cnt ∧ w.grownBy w' (some r) ∧ w'.heap.size = w.heap.size ∧ (Instr.entry (.pointer (some ⟨r, 0, none⟩))).run Tryz.prog w' = .ok (.tuple #[.agg #[.string c.table, .string c.row], .agg (cellA c)]) w' := by
  obtain ⟨es, hr, hp⟩ := h.own
  rcases hr.next lawA ty with ⟨h0, hl, hrun⟩ | ⟨key, v, kl, y, w', cnt', hkey, hlk, hv, hat, hrun, hrg, hlt, hgr, hsz, hen⟩
  · exact .inl ⟨h0, hl, hrun⟩
  · right
    have h1 : ∃ p ∈ es, p.1.sameKey kl = true ∧ p.2 = y.1 := by
      have ha := hat (.lit (.bool true))
      have hb := hat (.lit (.bool false))
      unfold DataW.atKey at ha hb
      dsimp only at ha hb
      cases hf : es.find? fun p => p.1.sameKey kl with
      | none =>
        rw [hf] at ha hb
        have := ha.trans hb.symm
        simp at this
      | some p =>
        rw [hf] at ha
        exact ⟨p, List.mem_of_find?_eq_some hf, List.find?_some (p := fun p : Lit × DataW Unit => p.1.sameKey kl) hf, ha⟩
    obtain ⟨p, hpe, hpk, hpv⟩ := h1
    obtain ⟨c, hc, rfl⟩ := List.mem_map.1 (hp.mem_iff.1 hpe)
    have hkl : keyLit (ck c) = kl := WideAt.sameKey_eq hpk
    subst hkl
    have hs := h.small c hc
    have hk2 := lawA.inj hkey (key_of c.table c.row hs.1 hs.2)
    subst hk2
    obtain ⟨d, rfl, hy⟩ := cellR_inv hv
    have hd : c = d := cellD_inj (by have := congrArg Prod.fst hy; exact hpv.trans this)
    subst hd
    exact ⟨c, w', cnt', hc, hlk, hrun, ⟨⟨es, hrg, hp⟩, h.once, h.small⟩, hlt, hgr, hsz, hen⟩
/-- 'delete(m, k)' in the round. -/
theorem rangeAt.drop {w : World} {b r n : Nat} {T : List Cell} {left : Lit → Bool} {cnt : Nat} (h : rangeAt w b r n T left cnt) (c : Cell) (hc : smallC c) (ty : TypeId) :
    ∃ w' cnt', (Builtin.delete_ #[28, 54] ty #[.map (some b), .agg #[.string c.table, .string c.row]]).run Tryz.prog w = .ok (.tuple #[]) w' ∧ rangeAt w' b r n (delT (ck c) T) (strike left c) cnt' ∧ cnt' ≤ cnt ∧ w.grownBy w' (some b) := by
  obtain ⟨es, hr, hp⟩ := h.own
  obtain ⟨w', cnt', hrun, hrg, hle, ht⟩ := hr.drop (t := 28) (e := 44) lawA Tryz.underlying28 (key_of c.table c.row hc.1 hc.2) ty
  refine ⟨w', cnt', hrun, ⟨⟨_, hrg, ?_⟩, h.once.filter _, fun d hd => h.small d (List.mem_filter.1 hd).1⟩, hle, ht.grown⟩
  refine (hp.filter _).trans ?_
  rw [filter_ent h.small hc.1 hc.2]
  exact .refl _
section
variable {ops : Array Oper} {rest : List Oper} {o : Oper} {a : Act} {w : World} {Q : Exit → Act → World → Prop}
theorem wpList_range_rows (hg : o.guard = none) (m : Operand) (hop : o.op = Op.range 28 m) (b n : Nat) (T : List Cell) (hm : a.eval m = .map (some b)) (h : mapAt w b n T)
    (hK : ∀ w' left cnt, rangeAt w' b w.heap.size n T left cnt → (∀ c ∈ T, left (keyLit (ck c)) = true) → w.grownBy w' none → w'.heap.size = w.heap.size + 1 → wpList Tryz.prog ops Q rest (a.put o.dst (.pointer (some ⟨w.heap.size, 0, none⟩))) w') :
    wpList Tryz.prog ops Q (o :: rest) a w := by
  refine wpList_plain hg fun K' hK' => ?_
  obtain ⟨w', left, cnt, hrun, r1, r2, r3, r4⟩ := h.range
  unfold Oper.wp
  simp [execOp, hop, hm, hrun, Result.andThen]
  exact hK' _ _ (hK w' left cnt r1 r2 r3 r4)
theorem wpList_next_rows (hg : o.guard = none) (it : Operand) (hop : o.op = Op.next it false) (b r n : Nat) (T : List Cell) (left : Lit → Bool) (cnt : Nat) (hit : a.eval it = .pointer (some ⟨r, 0, none⟩)) (h : rangeAt w b r n T left cnt)
    (hDone : cnt = 0 → (∀ kl, left kl = false) → wpList Tryz.prog ops Q rest (a.put o.dst (.tuple #[.bool false])) w)
    (hMore : ∀ (c : Cell) (w' : World) (cnt' : Nat), c ∈ T → left (keyLit (ck c)) = true → rangeAt w' b r n T (strike left c) cnt' → cnt' < cnt → w.grownBy w' (some r) → w'.heap.size = w.heap.size →
      (Instr.entry (.pointer (some ⟨r, 0, none⟩))).run Tryz.prog w' = .ok (.tuple #[.agg #[.string c.table, .string c.row], .agg #[.string c.table, .string c.row, .string c.subject, .string c.value]]) w' →
      wpList Tryz.prog ops Q rest (a.put o.dst (.tuple #[.bool true, .agg #[.string c.table, .string c.row], .agg #[.string c.table, .string c.row, .string c.subject, .string c.value]])) w') :
    wpList Tryz.prog ops Q (o :: rest) a w := by
  refine wpList_plain hg fun K' hK' => ?_
  unfold Oper.wp
  rcases h.next o.type with ⟨h0, hl, hrun⟩ | ⟨c, w', cnt', hc, hlk, hrun, hrg, hlt, hgr, hsz, hen⟩
  · simp [execOp, hop, hit, hrun, Result.andThen]
    exact hK' _ _ (hDone h0 hl)
  · simp [execOp, hop, hit, hrun, Result.andThen]
    exact hK' _ _ (hMore c w' cnt' hc hlk hrg hlt hgr hsz hen)
theorem wpList_del_range_rows (hg : o.guard = none) (m x : Operand) (hop : o.op = Op.call { callee := Callee.builtin Builtin.delete, args := #[m, x], argTypes := #[28, 54] }) (b r n : Nat) (T : List Cell) (left : Lit → Bool) (cnt : Nat)
    (hm : a.eval m = .map (some b)) (h : rangeAt w b r n T left cnt) (c : Cell) (hc : smallC c) (hx : a.eval x = .agg #[.string c.table, .string c.row])
    (hK : ∀ w' cnt', rangeAt w' b r n (delT (ck c) T) (strike left c) cnt' → cnt' ≤ cnt → w.grownBy w' (some b) → wpList Tryz.prog ops Q rest (a.put o.dst (.tuple #[])) w') :
    wpList Tryz.prog ops Q (o :: rest) a w := by
  refine wpList_plain hg fun K' hK' => ?_
  obtain ⟨w', cnt', hrun, r1, r2, r3⟩ := h.drop c hc o.type
  unfold Oper.wp
  simp [execOp, hop, resolve, invoke, builtin, hm, hx, hrun, Result.andThen]
  exact hK' _ _ (hK w' cnt' r1 r2 r3)
theorem wpList_del_rows (hg : o.guard = none) (m x : Operand) (hop : o.op = Op.call { callee := Callee.builtin Builtin.delete, args := #[m, x], argTypes := #[28, 54] }) (b n : Nat) (T : List Cell)
    (hm : a.eval m = .map (some b)) (h : mapAt w b n T) (t r : ByteArray) (ht : t.size ≤ maxLen) (hr : r.size ≤ maxLen) (hx : a.eval x = .agg #[.string t, .string r])
    (hK : ∀ w', mapAt w' b n (delT (txt t, txt r) T) → w.grownBy w' (some b) → wpList Tryz.prog ops Q rest (a.put o.dst (.tuple #[])) w') :
    wpList Tryz.prog ops Q (o :: rest) a w := by
  refine wpList_plain hg fun K' hK' => ?_
  obtain ⟨w', hrun, r1, r2⟩ := h.del ht hr o.type
  unfold Oper.wp
  simp [execOp, hop, resolve, invoke, builtin, hm, hx, hrun, Result.andThen]
  exact hK' _ _ (hK w' r1 r2)
theorem wpList_put_rows (hg : o.guard = none) (m x v : Operand) (hop : o.op = Op.mapUpdate 28 m x v) (b n : Nat) (T : List Cell)
    (hm : a.eval m = .map (some b)) (h : mapAt w b n T) (hn : n < maxLen) (c : Cell) (hc : smallC c) (hx : a.eval x = .agg #[.string c.table, .string c.row]) (hv : a.eval v = .agg (cellA c))
    (hK : ∀ w', mapAt w' b (n + 1) (putT c T) → w.grownBy w' (some b) → wpList Tryz.prog ops Q rest (a.put o.dst undef) w') :
    wpList Tryz.prog ops Q (o :: rest) a w := by
  refine wpList_plain hg fun K' hK' => ?_
  obtain ⟨w', hrun, r1, r2⟩ := h.put c hc hn
  unfold Oper.wp
  simp [execOp, hop, hm, hx, hv, hrun, Result.andThen]
  exact hK' _ _ (hK w' r1 r2)
end
/-! ### What is left -/
theorem key_ne {c d : Cell} (hc : smallC c) (hd : smallC d) (h : ck d ≠ ck c) : (keyLit (ck d)).sameKey (keyLit (ck c)) = false := by
  have := ent_key hd hc.1 hc.2
  unfold ent at this
  dsimp only at this
  rw [show (txt c.table, txt c.row) = ck c from rfl] at this
  rw [this, decide_eq_false_iff_not]; exact h
theorem strike_same (left : Lit → Bool) (c : Cell) : strike left c (keyLit (ck c)) = false := by
  unfold strike; rw [(sameKey_lit _ _).2 rfl]; simp
theorem strike_other (left : Lit → Bool) {c d : Cell} (hc : smallC c) (hd : smallC d) (h : ck d ≠ ck c) : strike left c (keyLit (ck d)) = left (keyLit (ck d)) := by
  unfold strike; rw [key_ne hc hd h]; simp
theorem strike_twice (left : Lit → Bool) (c : Cell) : strike (strike left c) c = strike left c := by
  funext z; unfold strike; cases left z <;> cases z.sameKey (keyLit (ck c)) <;> rfl
/-- The rows, but those of a subject that have come. -/
def goneLeft (s : List UInt8) (T : List Cell) (left : Lit → Bool) : List Cell := T.filter fun c => !decide (txt c.subject = s) || left (keyLit (ck c))
theorem goneLeft_start {s : List UInt8} {T : List Cell} {left : Lit → Bool} (h : ∀ c ∈ T, left (keyLit (ck c)) = true) : goneLeft s T left = T := by
  unfold goneLeft
  rw [List.filter_eq_self]
  intro c hc; rw [h c hc]; simp
theorem goneLeft_end {s : List UInt8} {T : List Cell} {left : Lit → Bool} (h : ∀ kl, left kl = false) : goneLeft s T left = goneT s T := by
  unfold goneLeft goneT
  apply List.filter_congr
  intro c hc; rw [h]; simp
theorem goneLeft_other {s : List UInt8} {T : List Cell} {left : Lit → Bool} (ho : Once T) (hs : ∀ c ∈ T, smallC c) {c : Cell} (hc : c ∈ T) (h : txt c.subject ≠ s) : goneLeft s T (strike left c) = goneLeft s T left := by
  unfold goneLeft
  apply List.filter_congr
  intro d hd
  by_cases e : ck d = ck c
  · rw [once_eq ho hd hc e]; simp [h]
  · rw [strike_other left (hs c hc) (hs d hd) e]
theorem goneLeft_drop {s : List UInt8} {T : List Cell} {left : Lit → Bool} (ho : Once T) (hs : ∀ c ∈ T, smallC c) {c : Cell} (hc : c ∈ T) (h : txt c.subject = s) : delT (ck c) (goneLeft s T left) = goneLeft s T (strike left c) := by
  unfold goneLeft delT
  rw [List.filter_filter]
  apply List.filter_congr
  intro d hd
  by_cases e : ck d = ck c
  · rw [once_eq ho hd hc e, strike_same]; simp [h]
  · rw [strike_other left (hs c hc) (hs d hd) e]; simp [e]
end Go.Proofs.YtcbcknfhblamfaaGreatDoor
