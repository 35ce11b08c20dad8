/- A region that draws its order, by an invariant over the operations that are done. No program. -/
import Derived.Test.YtcbcknfhblamfaaGreatDoorBase
namespace Go.Proofs.YtcbcknfhblamfaaGreatDoor
open Go.RowKit

theorem count_set : ∀ (l : List Bool) (i : Nat), l[i]? = some false → (l.set i true).count false + 1 = l.count false
  | [], i, h => by simp at h
  | b :: l, 0, h => by
    simp only [List.getElem?_cons_zero, Option.some.injEq] at h
    subst h
    simp
  | b :: l, i + 1, h => by
    have ih := count_set l i (by simpa using h)
    simp only [List.set_cons_succ, List.count_cons]
    omega
section
variable {P : Program} {ops : Array Oper} {Q : Exit → Act → World → Prop}
/-- Whatever order: an invariant that each operation, once all that it waits for is done, keeps. -/
theorem wpAny_inv (I : Array Bool → Act → World → Prop) (hb : backB .any ops = true)
    (hstep : ∀ (listed : Array Bool) (a : Act) (w : World) (i : Nat) (o : Oper), listed.size = ops.size → I listed a w → ops[i]? = some o → listed[i]? = some false →
      (∀ e ∈ o.after, Region.binds .any e = true → listed[e.on]? = some true) → wpOp P ops Q i (I (listed.setIfInBounds i true)) a w)
    (hend : ∀ (listed : Array Bool) (a : Act) (w : World), listed.size = ops.size → (∀ i, i < ops.size → listed[i]? = some true) → I listed a w → Q .normal a w) :
    ∀ (fuel : Nat) (listed : Array Bool) (a : Act) (w : World), listed.size = ops.size → listed.toList.count false = fuel → I listed a w → wpAny P .any ops Q fuel listed a w
  | 0, listed, a, w, hs, hc, hI => by
    have hall : ∀ i, i < ops.size → listed[i]? = some true := by
      intro i hi
      have hlt : i < listed.size := by omega
      rw [Array.getElem?_eq_getElem hlt]
      cases hl : listed[i] with
      | true => rfl
      | false =>
        exfalso
        have : false ∈ listed.toList := by rw [← hl]; exact Array.getElem_mem_toList hlt
        have := List.count_pos_iff.2 this
        omega
    refine ⟨?_, hend listed a w hs hall hI⟩
    apply List.eq_nil_iff_forall_not_mem.2
    intro i hi
    rw [mem_ready] at hi
    obtain ⟨h1, o, h2, _⟩ := hi
    have hlt : i < ops.size := (Array.getElem?_eq_some_iff.1 h2).1
    have := hall i hlt
    simp [this] at h1
  | fuel + 1, listed, a, w, hs, hc, hI => by
    refine ⟨?_, ?_⟩
    · intro h0
      exfalso
      have hm : false ∈ listed.toList := List.count_pos_iff.1 (by omega)
      obtain ⟨i, hi, he⟩ := List.getElem_of_mem hm
      have hlt : i < listed.size := by simpa using hi
      have hg : listed.getD i true = false := by
        simp only [Array.getElem_toList] at he
        simp [hlt, he]
      exact ready_some (n := ops.size) hb (Nat.le_refl _) hs i (by omega) hg h0
    · intro i hi
      rw [mem_ready] at hi
      obtain ⟨h1, o, h2, h3⟩ := hi
      have hlt : i < ops.size := (Array.getElem?_eq_some_iff.1 h2).1
      have hli : listed[i]? = some false := by
        rw [Array.getElem?_eq_getElem (by omega)]
        simp [show i < listed.size by omega] at h1
        rw [h1]
      have hst := hstep listed a w i o hs hI h2 hli (fun e he hbi => by
        have hb' := backB_spec hb h2 he hbi
        have := h3 e he hbi
        rw [Array.getElem?_eq_getElem (by omega)]
        simp [show e.on < listed.size by omega] at this
        rw [this])
      have hcnt : (listed.setIfInBounds i true).toList.count false = fuel := by
        have hl2 : listed.toList[i]? = some false := by rw [Array.getElem?_toList]; exact hli
        have := count_set listed.toList i hl2
        rw [Array.toList_setIfInBounds]
        omega
      have ih := fun a' w' (h : I (listed.setIfInBounds i true) a' w') => wpAny_inv I hb hstep hend fuel (listed.setIfInBounds i true) a' w' (by simpa using hs) hcnt h
      unfold wpOp at hst ⊢
      simp only [h2] at hst ⊢
      split
      · rename_i hw
        rw [if_pos hw] at hst
        rcases hst with h | h
        · exact .inl (Oper.wp_mono ih h)
        · exact .inr h
      · rename_i hw
        rw [if_neg hw] at hst
        exact ih _ _ hst
theorem wp_region_inv {id : Nat} {a : Act} {w : World} {l : List Oper} (I : Array Bool → Act → World → Prop) (hm : P.follows .mixedOrders = true) (hb : backB .any l.toArray = true)
    (h0 : I (Array.replicate l.length false) a { w with drawn := w.drawn + 1 })
    (hstep : ∀ (listed : Array Bool) (a : Act) (w : World) (i : Nat) (o : Oper), listed.size = l.length → I listed a w → l[i]? = some o → listed[i]? = some false →
      (∀ e ∈ o.after, Region.binds .any e = true → listed[e.on]? = some true) → wpOp P l.toArray Q i (I (listed.setIfInBounds i true)) a w)
    (hend : ∀ (listed : Array Bool) (a : Act) (w : World), listed.size = l.length → (∀ i, i < l.length → listed[i]? = some true) → I listed a w → Q .normal a w) : (Code.region id l.toArray true).wp P Q a w := by
  refine wp_region_any hm ?_
  refine wpAny_inv I hb (fun listed a w i o hs hI ho => hstep listed a w i o (by simpa using hs) hI (by simpa using ho)) (fun listed a w hs hall => hend listed a w (by simpa using hs) (by simpa using hall)) _ _ _ _ (by simp) (by simp) (by simpa using h0)
end

/-! ### The same, slot by slot -/
/-- The slots, one laid anew. -/
def upd1 (g : Nat → Value) (d : Nat) (v : Value) : Nat → Value := fun k => if k = d then v else g k
theorem upd1_same (g : Nat → Value) (d : Nat) (v : Value) : upd1 g d v d = v := if_pos rfl
theorem upd1_id {g : Nat → Value} {d : Nat} {v : Value} (h : g d = v) : upd1 g d v = g := by
  funext k
  unfold upd1
  split
  · rename_i e; rw [e, h]
  · rfl
theorem wpList_insert {P : Program} {w w' : World} {ops : Array Oper} {rest : List Oper} {o : Oper} {a : Act} {Q : Exit → Act → World → Prop} (hg : o.guard = none) (m x v : Operand) (t : TypeId) (hop : o.op = Op.insert t m x v)
    (hrun : (Instr.mapUpdate t (a.eval m) (a.eval x) (a.eval v)).run P w = .ok () w') (h : wpList P ops Q rest (a.put o.dst undef) w') : wpList P ops Q (o :: rest) a w := by
  refine wpList_plain hg fun K' hK' => ?_
  unfold Oper.wp
  simp [execOp, hop, hrun, Result.andThen]
  exact hK' _ _ h
theorem wpList_look {P : Program} {w : World} {ops : Array Oper} {rest : List Oper} {o : Oper} {a : Act} {Q : Exit → Act → World → Prop} (hg : o.guard = none) (m x : Operand) (t : TypeId) (hop : o.op = Op.lookup t m x false) {y : Value}
    (hrun : (Instr.lookup t (a.eval m) (a.eval x) false).run P w = .ok y w) (h : wpList P ops Q rest (a.put o.dst y) w) : wpList P ops Q (o :: rest) a w := by
  refine wpList_plain hg fun K' hK' => ?_
  unfold Oper.wp
  simp [execOp, hop, hrun, Result.andThen]
  exact hK' _ _ h
theorem cell_below {n : Nat} {w w' : World} {p : Addr} {v : Value} (hB : Below n w w') (hp : p.block < n) (h : w.cell? p = some v) : w'.cell? p = some v := by
  obtain ⟨b, o, s⟩ := p
  rw [cell_in] at h ⊢
  rw [hB.block b hp]; exact h
theorem upd1_other (g : Nat → Value) {d k : Nat} (v : Value) (h : k ≠ d) : upd1 g d v k = g k := if_neg h
section
variable {P : Program}
/-- Nothing but an ordinary end. -/
def Ends (K : Act → World → Prop) : Exit → Act → World → Prop := fun x a w => x = .normal ∧ K a w
theorem not_letsOut_ends {K : Act → World → Prop} : ¬ LetsOut (Ends K) := by rintro ⟨_, _, h, _⟩; cases h
theorem wpOp_of_ends {ops : Array Oper} {Q : Exit → Act → World → Prop} {K : Act → World → Prop} {i : Nat} {o : Oper} {a : Act} {w : World} (ho : ops[i]? = some o) (h : wpList P ops (Ends K) [o] a w) : wpOp P ops Q i K a w := by
  unfold wpOp
  simp only [ho]
  unfold wpList at h
  split
  · rename_i hw
    rw [if_pos hw] at h
    rcases h with h | ⟨_, h⟩
    · left
      unfold Oper.wp at h ⊢
      generalize (execOp a.eval o).run P w = r at *
      cases r with
      | ok n w' =>
        cases n <;> simp only [Oper.upon] at h ⊢ <;>
          first
            | exact h.2
            | exact Calls.mono h (fun e w'' he => by
                cases e with
                | returned v => exact he.2
                | panicked c => exact absurd he.1 (by simp)
                | outgrown => exact absurd he not_letsOut_ends)
            | exact Rows.mono h (fun _ _ he => he.2)
      | halt x w' => cases x <;> simp only [Oper.upon] at h ⊢ <;> first | exact h | exact absurd h.1 (by simp)
    · exact absurd h not_letsOut_ends
  · rename_i hw
    rw [if_neg hw] at h
    exact h.2
theorem wpList_ends {ops : Array Oper} {K K' : Act → World → Prop} {o : Oper} {a : Act} {w : World} (h : wpList P ops (Ends K) [o] a w) (hk : ∀ a w, K a w → K' a w) : wpList P ops (Ends K') [o] a w := by
  unfold wpList at h ⊢
  split
  · rename_i hw
    rw [if_pos hw] at h
    rcases h with h | ⟨_, h⟩
    · left
      unfold Oper.wp at h ⊢
      generalize (execOp a.eval o).run P w = r at *
      cases r with
      | ok n w' =>
        cases n <;> simp only [Oper.upon] at h ⊢ <;>
          first
            | exact ⟨rfl, hk _ _ h.2⟩
            | exact Calls.mono h (fun e w'' he => by
                cases e with
                | returned v => exact ⟨rfl, hk _ _ he.2⟩
                | panicked c => exact absurd he.1 (by simp)
                | outgrown => exact absurd he not_letsOut_ends)
            | exact Rows.mono h (fun _ _ he => ⟨rfl, hk _ _ he.2⟩)
      | halt x w' => cases x <;> simp only [Oper.upon] at h ⊢ <;> first | exact h | exact absurd h.1 (by simp)
    · exact absurd h not_letsOut_ends
  · rename_i hw
    rw [if_neg hw] at h
    exact ⟨rfl, hk _ _ h.2⟩
theorem ends_of {ops : Array Oper} {l : List Oper} {K : Act → World → Prop} {a : Act} {w : World} (h : ∀ Q : Exit → Act → World → Prop, Hid (∀ a' w', K a' w' → Q .normal a' w') → wpList P ops Q l a w) : wpList P ops (Ends K) l a w :=
  h _ (Lib.hid fun _ _ hk => ⟨rfl, hk⟩)
/-- One operation: from what it waits for, what it lays. -/
def Step (ops : Array Oper) (A : (Nat → Value) → Act) (d : Nat → Nat) (R : Nat → Value → World → Prop) (C : (Nat → Bool) → (Nat → Value) → World → Prop) (S : World → World → Prop) (i : Nat) (o : Oper) : Prop :=
  ∀ (L : Nat → Bool) (g : Nat → Value) (w : World), L i = false → (∀ e ∈ o.after, Region.binds .any e = true → L e.on = true) → (∀ j, L j = true → R j (g (d j)) w) → C L g w →
    wpList P ops (Ends fun a' w' => ∃ v, a' = A (upd1 g (d i) v) ∧ S w w' ∧ R i v w' ∧ C (fun k => if k = i then true else L k) (upd1 g (d i) v) w') [o] (A g) w
def Steps (ops : Array Oper) (A : (Nat → Value) → Act) (d : Nat → Nat) (R : Nat → Value → World → Prop) (C : (Nat → Bool) → (Nat → Value) → World → Prop) (S : World → World → Prop) : Nat → List Oper → Prop
  | _, [] => True
  | i, o :: l => Step (P := P) ops A d R C S i o ∧ Steps ops A d R C S (i + 1) l
theorem steps_at {ops : Array Oper} {A : (Nat → Value) → Act} {d : Nat → Nat} {R : Nat → Value → World → Prop} {C : (Nat → Bool) → (Nat → Value) → World → Prop} {S : World → World → Prop} :
    ∀ (l : List Oper) (k : Nat), Steps (P := P) ops A d R C S k l → ∀ i o, l[i]? = some o → Step (P := P) ops A d R C S (k + i) o
  | [], _, _, i, o, h => by simp at h
  | a :: l, k, hs, 0, o, h => by
    simp only [List.getElem?_cons_zero, Option.some.injEq] at h
    subst h
    exact hs.1
  | a :: l, k, hs, i + 1, o, h => by
    have := steps_at l (k + 1) hs.2 i o (by simpa using h)
    rwa [show k + 1 + i = k + (i + 1) by omega] at this
def onB (listed : Array Bool) (k : Nat) : Bool := listed[k]?.getD false
theorem wp_region_slots {id : Nat} {Q : Exit → Act → World → Prop} {a : Act} {w : World} {l : List Oper} (A : (Nat → Value) → Act) (d : Nat → Nat) (g0 : Nat → Value) (R : Nat → Value → World → Prop) (C : (Nat → Bool) → (Nat → Value) → World → Prop) (S : World → World → Prop)
    (hm : P.follows .mixedOrders = true) (hb : backB .any l.toArray = true) (ha : a = A g0) (hS : ∀ j v w w', S w w' → R j v w → R j v w') (hd : ((List.range l.length).all fun i => (List.range l.length).all fun j => i == j || d i != d j) = true)
    (hC : C (fun _ => false) g0 { w with drawn := w.drawn + 1 }) (hsteps : Steps (P := P) l.toArray A d R C S 0 l)
    (hend : ∀ (L : Nat → Bool) (g : Nat → Value) (w : World), (∀ j, j < l.length → L j = true) → (∀ j, j < l.length → R j (g (d j)) w) → C L g w → Q .normal (A g) w) : (Code.region id l.toArray true).wp P Q a w := by
  refine wp_region_inv (fun listed a w => listed.size = l.length ∧ ∃ g, a = A g ∧ (∀ j, onB listed j = true → R j (g (d j)) w) ∧ C (onB listed) g w) hm hb ⟨by simp, g0, ha, ?_, ?_⟩ ?_ ?_
  · intro j hj
    exfalso
    unfold onB at hj
    rw [Array.getElem?_replicate] at hj
    split at hj <;> simp at hj
  · have : onB (Array.replicate l.length false) = fun _ => false := by
      funext k
      unfold onB
      rw [Array.getElem?_replicate]
      split <;> rfl
    rw [this]; exact hC
  · rintro listed a w i o hsz ⟨_, g, rfl, hR, hC⟩ ho hli hdeps
    have hlt : i < l.length := (List.getElem?_eq_some_iff.1 ho).1
    refine wpOp_of_ends (o := o) (by simpa using ho) ?_
    have hst := steps_at l 0 hsteps i o ho
    rw [Nat.zero_add] at hst
    have hoff : onB listed i = false := by unfold onB; rw [hli]; rfl
    have h := hst (onB listed) g w hoff (fun e he hbi => by unfold onB; rw [hdeps e he hbi]; rfl) hR hC
    have hset : onB (listed.setIfInBounds i true) = fun k => if k = i then true else onB listed k := by
      funext k
      unfold onB
      by_cases hk : k = i
      · subst hk; simp [hsz, hlt]
      · simp [hk, Ne.symm hk]
    refine wpList_ends h ?_
    rintro a' w' ⟨v, rfl, hs, hr, hc⟩
    refine ⟨by simpa using hsz, upd1 g (d i) v, rfl, ?_, by rw [hset]; exact hc⟩
    intro j hj
    rw [hset] at hj
    by_cases hji : j = i
    · subst hji; rw [upd1_same]; exact hr
    · replace hj : onB listed j = true := by simpa [hji] using hj
      have hjl : j < l.length := by
        unfold onB at hj
        rcases Nat.lt_or_ge j listed.size with h' | h'
        · omega
        · rw [Array.getElem?_eq_none h'] at hj; simp at hj
      have hd' := List.all_eq_true.1 (List.all_eq_true.1 hd j (List.mem_range.2 hjl)) i (List.mem_range.2 hlt)
      simp only [Bool.or_eq_true, beq_iff_eq, bne_iff_ne, ne_eq, hji, false_or] at hd'
      rw [upd1_other _ _ hd']
      exact hS _ _ _ _ hs (hR j hj)
  · rintro listed a w hsz hall ⟨_, g, rfl, hR, hC⟩
    have hon : ∀ j, j < l.length → onB listed j = true := fun j hj => by unfold onB; rw [hall j hj]; rfl
    exact hend _ g w hon (fun j hj => hR j (hon j hj)) hC
end
end Go.Proofs.YtcbcknfhblamfaaGreatDoor
