/- Each for itself: plain lemmas. No program. -/
import Derived.Test.YtcbcknfhblamfaaGreatDoorG10
import Derived.Test.YtcbcknfhblamfaaGreatDoorG14
namespace Go.Proofs.YtcbcknfhblamfaaGreatDoor

theorem find_perm {k : List UInt8 × List UInt8} {T T' : List Cell} (hp : T.Perm T') (ho : Once T) : findT k T = findT k T' := by
  have ho' : Once T' := ho.perm hp.symm
  cases h : findT k T with
  | some c =>
    obtain ⟨h1, h2⟩ := find_mem h
    have := find_some ho' (hp.mem_iff.1 h1)
    rw [h2] at this
    exact this.symm
  | none =>
    cases h' : findT k T' with
    | none => rfl
    | some c =>
      obtain ⟨h1, h2⟩ := find_mem h'
      exact absurd h2 (find_none h c (hp.mem_iff.2 h1))
theorem step_perm {e : Ev} {T T' : List Cell} (hp : T.Perm T') (ho : Once T) : (stepT e T).Perm (stepT e T') := by
  unfold stepT
  split
  · exact List.Perm.cons _ (hp.filter _)
  · split
    · rw [find_perm hp ho]
      split
      · exact hp.filter _
      · exact hp
    · exact hp.filter _
theorem apply_perm (ok : List UInt8 → Bool) {e : Ev} {T T' : List Cell} (hp : T.Perm T') (ho : Once T) : (applyT ok e T).Perm (applyT ok e T') := by
  unfold applyT
  split
  · exact step_perm hp ho
  · exact hp
theorem fold_perm (ok : List UInt8 → Bool) : ∀ (l : List Ev) {T T' : List Cell}, T.Perm T' → Once T → (foldT ok l T).Perm (foldT ok l T')
  | [], _, _, hp, _ => hp
  | e :: l, _, _, hp, ho => fold_perm ok l (apply_perm ok hp ho) (ho.apply ok e)
/-- Rows of one subject in one table; an event that is such a one. -/
def rowsOf (s t : List UInt8) (T : List Cell) : Prop := ∀ c ∈ T, txt c.subject = s ∧ txt c.table = t
def evOf (s t : List UInt8) (e : Ev) : Prop := txt e.subject = s ∧ (e.kind ≠ 3 → txt e.table = t)
theorem rows_apply (ok : List UInt8 → Bool) {s t : List UInt8} {e : Ev} {T : List Cell} (he : evOf s t e) (h : rowsOf s t T) : rowsOf s t (applyT ok e T) := by
  unfold applyT
  split
  · unfold stepT
    split
    · rename_i k1
      intro c hc
      rcases List.mem_cons.1 hc with rfl | hc
      · exact ⟨he.1, he.2 (by rw [k1]; decide)⟩
      · exact h c (List.mem_filter.1 hc).1
    · split
      · split
        · exact fun c hc => h c (List.mem_filter.1 hc).1
        · exact h
      · exact fun c hc => h c (List.mem_filter.1 hc).1
  · exact h
theorem rows_fold (ok : List UInt8 → Bool) {s t : List UInt8} : ∀ (l : List Ev) {T : List Cell}, (∀ e ∈ l, evOf s t e) → rowsOf s t T → rowsOf s t (foldT ok l T)
  | [], _, _, h => h
  | e :: l, _, he, h => rows_fold ok l (fun x hx => he x (List.mem_cons_of_mem _ hx)) (rows_apply ok (he e List.mem_cons_self) h)
theorem del_other {k : List UInt8 × List UInt8} {s t : List UInt8} {T : List Cell} (h : rowsOf s t T) (hk : k.1 ≠ t) : delT k T = T := by
  unfold delT
  refine List.filter_eq_self.2 fun c hc => ?_
  simp only [Bool.not_eq_true', decide_eq_false_iff_not]
  intro e
  have := (h c hc).2
  rw [← this, ← e] at hk
  exact hk rfl
/-- What is done on the one side leaves the other as it is. -/
theorem apply_left (ok : List UInt8 → Bool) {s t s' t' : List UInt8} {e : Ev} {A B : List Cell} (hs : s ≠ s') (ht : t ≠ t') (he : evOf s t e) (hB : rowsOf s' t' B) (h1 : rightE ok e = true → e.kind = 1 ∨ e.kind = 2 ∨ e.kind = 3) : applyT ok e (A ++ B) = applyT ok e A ++ B := by
  unfold applyT
  split
  · rename_i hr
    have h3 := h1 hr
    unfold stepT
    by_cases k1 : e.kind = 1
    · rw [if_pos k1, if_pos k1]
      have ht' : txt e.table = t := he.2 (by rw [k1]; decide)
      unfold putT
      rw [show delT (ck (cellE e)) (A ++ B) = delT (ck (cellE e)) A ++ delT (ck (cellE e)) B from List.filter_append .., del_other hB (by show txt e.table ≠ t'; rw [ht']; exact ht)]
      rfl
    · rw [if_neg k1, if_neg k1]
      by_cases k2 : e.kind = 2
      · rw [if_pos k2, if_pos k2]
        have ht' : txt e.table = t := he.2 (by rw [k2]; decide)
        have hn : (ek e).1 ≠ t' := by show txt e.table ≠ t'; rw [ht']; exact ht
        have hf : findT (ek e) (A ++ B) = findT (ek e) A := by
          unfold findT
          rw [List.find?_append]
          have : B.find? (fun c => decide (ck c = ek e)) = none := by
            rw [List.find?_eq_none]
            intro c hc
            simp only [decide_eq_true_eq]
            intro e'
            apply hn
            rw [← e']
            exact (hB c hc).2
          rw [this, Option.or_none]
        rw [hf]
        split
        · rw [show delT (ek e) (A ++ B) = delT (ek e) A ++ delT (ek e) B from List.filter_append .., del_other hB hn]
        · rfl
      · rw [if_neg k2, if_neg k2]
        unfold goneT
        rw [List.filter_append]
        congr 1
        refine List.filter_eq_self.2 fun c hc => ?_
        simp only [Bool.not_eq_true', decide_eq_false_iff_not]
        rw [(hB c hc).1, he.1]
        exact fun e => hs e.symm
  · rfl
/-- In whatever order they come. -/
def both (ok : List UInt8 → Bool) (a b : List Ev) (T : List Cell) : Prop := T.Perm (foldT ok a [] ++ foldT ok b [])
theorem both.once {ok : List UInt8 → Bool} {a b : List Ev} {s t s' t' : List UInt8} (ht : t ≠ t') (ha : ∀ e ∈ a, evOf s t e) (hb : ∀ e ∈ b, evOf s' t' e) : Once (foldT ok a [] ++ foldT ok b []) := by
  refine List.pairwise_append.2 ⟨once_foldT ok a List.Pairwise.nil, once_foldT ok b List.Pairwise.nil, fun c hc d hd e => ?_⟩
  have h1 := (rows_fold ok a ha (T := []) (fun c hc => by cases hc) c hc).2
  have h2 := (rows_fold ok b hb (T := []) (fun c hc => by cases hc) d hd).2
  have h3 : txt c.table = txt d.table := congrArg Prod.fst e
  exact ht (by rw [← h1, ← h2, h3])
theorem both.left {ok : List UInt8 → Bool} {a b : List Ev} {e : Ev} {T : List Cell} {s t s' t' : List UInt8} (hs : s ≠ s') (ht : t ≠ t') (ho : Once T) (hb : ∀ x ∈ b, evOf s' t' x) (he : evOf s t e) (h : both ok a b T) : both ok (a ++ [e]) b (applyT ok e T) := by
  unfold both at h ⊢
  rw [foldT_append]
  refine (apply_perm ok h ho).trans ?_
  rw [apply_left ok hs ht he (rows_fold ok b hb (T := []) (fun c hc => by cases hc)) kind_cases]
  exact List.Perm.refl _
theorem both.right {ok : List UInt8 → Bool} {a b : List Ev} {e : Ev} {T : List Cell} {s t s' t' : List UInt8} (hs : s ≠ s') (ht : t ≠ t') (ho : Once T) (ha : ∀ x ∈ a, evOf s t x) (he : evOf s' t' e) (h : both ok a b T) : both ok a (b ++ [e]) (applyT ok e T) := by
  unfold both at h ⊢
  rw [foldT_append]
  refine (apply_perm ok (h.trans List.perm_append_comm) ho).trans ?_
  rw [apply_left ok hs.symm ht.symm he (rows_fold ok a ha (T := []) (fun c hc => by cases hc)) kind_cases]
  exact List.perm_append_comm
theorem both.start (ok : List UInt8 → Bool) : both ok [] [] [] := List.Perm.refl _
theorem both.same {ok : List UInt8 → Bool} {a b : List Ev} {T U l m : List Cell} (h1 : both ok a b T) (h2 : both ok a b U) (p1 : l.Perm T) (p2 : m.Perm U) (a1 : Asc l) (a2 : Asc m) : l = m :=
  asc_eq a1 a2 ((p1.trans h1).trans ((p2.trans h2).symm))
end Go.Proofs.YtcbcknfhblamfaaGreatDoor
