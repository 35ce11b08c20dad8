/- Twice is once: plain lemmas. No program. · The document's table, a list in order, beside the program's: plain lemmas. No program. -/
import Derived.Test.YtcbcknfhblamfaaGreatDoorG15
namespace Go.Proofs.YtcbcknfhblamfaaGreatDoor

theorem filter_twice {α : Type} (p : α → Bool) (l : List α) : (l.filter p).filter p = l.filter p := by
  rw [List.filter_filter]; simp
theorem del_one {e : Ev} {T : List Cell} (h : Once T) (hk : e.kind = 2) : stepT e T = T.filter fun d => !(decide (ck d = ek e) && decide (txt d.subject = txt e.subject)) := by
  unfold stepT
  rw [if_neg (by rw [hk]; decide), if_pos hk]
  cases hf : findT (ek e) T with
  | none =>
    have hn := find_none hf
    have h1 : delT (ek e) T = T := List.filter_eq_self.2 fun c hc => by simp [hn c hc]
    have h2 : T.filter (fun d => !(decide (ck d = ek e) && decide (txt d.subject = txt e.subject))) = T := List.filter_eq_self.2 fun c hc => by simp [hn c hc]
    rw [h1, h2]; split <;> rfl
  | some c =>
    obtain ⟨hc, he⟩ := find_mem hf
    simp only [Option.getD_some]
    split
    · rename_i hs
      unfold delT
      refine List.filter_congr fun d hd => ?_
      by_cases e1 : ck d = ek e
      · have : d = c := once_eq h hd hc (e1.trans he.symm)
        subst this
        simp [e1, hs]
      · simp [e1]
    · rename_i hs
      refine (List.filter_eq_self.2 fun d hd => ?_).symm
      by_cases e1 : ck d = ek e
      · have : d = c := once_eq h hd hc (e1.trans he.symm)
        subst this
        simp [hs]
      · simp [e1]
theorem apply_twice (ok : List UInt8 → Bool) (e : Ev) {T : List Cell} (h : Once T) : applyT ok e (applyT ok e T) = applyT ok e T := by
  unfold applyT
  by_cases hr : rightE ok e = true
  · rw [if_pos hr, if_pos hr]
    rcases kind_cases hr with k | k | k
    · unfold stepT
      rw [if_pos k, if_pos k]
      unfold putT delT
      rw [List.filter_cons_of_neg (by simp), filter_twice]
    · rw [del_one (h.step e) k, del_one h k, filter_twice]
    · unfold stepT
      rw [if_neg (by rw [k]; decide), if_neg (by rw [k]; decide), if_neg (by rw [k]; decide), if_neg (by rw [k]; decide)]
      unfold goneT
      rw [filter_twice]
  · rw [if_neg hr, if_neg hr]
theorem apply_wrong (ok : List UInt8 → Bool) {e : Ev} (h : rightE ok e = false) (T : List Cell) : applyT ok e T = T := by
  unfold applyT
  rw [if_neg (by rw [h]; decide)]
/-- A Del of a Put's row. -/
def delOf (e : Ev) : Ev := ⟨2, e.subject, e.table, e.row, ⟨#[]⟩⟩
theorem right_delOf {ok : List UInt8 → Bool} {e : Ev} (h : rightE ok e = true) (k : e.kind = 1) : rightE ok (delOf e) = true := by
  unfold rightE at h ⊢
  rw [if_pos k] at h
  simp only [Bool.and_eq_true] at h
  obtain ⟨h1, ⟨⟨h2, h3⟩, _⟩, _⟩ := h
  have e0 : (delOf e).kind = 2 := rfl
  rw [if_neg (by rw [e0]; decide), if_pos e0]
  simp only [delOf, h1, h2, h3, Bool.and_eq_true, true_and]
  rfl
theorem put_del (ok : List UInt8 → Bool) {e : Ev} {T : List Cell} (h : rightE ok e = true) (k : e.kind = 1) (ho : Once T) : applyT ok (delOf e) (applyT ok e T) = delT (ek e) T := by
  have h2 : applyT ok e T = cellE e :: delT (ek e) T := by
    unfold applyT stepT
    rw [if_pos h, if_pos k]; rfl
  have ho2 : Once (cellE e :: delT (ek e) T) := h2 ▸ ho.apply ok e
  rw [h2]
  unfold applyT
  rw [if_pos (right_delOf h k), del_one ho2 rfl, List.filter_cons_of_neg (by
    show ¬ (!(decide (ck (cellE e) = ek (delOf e)) && decide (txt (cellE e).subject = txt (delOf e).subject))) = true
    simp [cellE, ck, ek, delOf])]
  refine List.filter_eq_self.2 fun d hd => ?_
  have := (List.mem_filter.1 hd).2
  simp only [Bool.not_eq_true', decide_eq_false_iff_not] at this
  have h3 : ¬ ck d = ek (delOf e) := this
  simp [h3]
/-- Rows bear names. -/
def named (T : List Cell) : Prop := ∀ c ∈ T, nameB (txt c.table) = true ∧ nameB (txt c.row) = true
theorem named_apply (ok : List UInt8 → Bool) {e : Ev} {T : List Cell} (h : named T) : named (applyT ok e T) := by
  unfold applyT
  split
  · rename_i hr
    unfold stepT
    split
    · rename_i k
      intro c hc
      rcases List.mem_cons.1 hc with rfl | hc
      · unfold rightE at hr
        rw [if_pos k] at hr
        simp only [Bool.and_eq_true] at hr
        exact ⟨hr.2.1.1.1, hr.2.1.1.2⟩
      · exact h c (List.mem_filter.1 hc).1
    · split
      · split
        · exact fun c hc => h c (List.mem_filter.1 hc).1
        · exact h
      · exact fun c hc => h c (List.mem_filter.1 hc).1
  · exact h
theorem named_fold (ok : List UInt8 → Bool) : ∀ (l : List Ev) {T : List Cell}, named T → named (foldT ok l T)
  | [], _, h => h
  | _ :: l, _, h => named_fold ok l (named_apply ok h)
/-- A Del by a subject of a row. -/
def delBy (s : ByteArray) (c : Cell) : Ev := ⟨2, s, c.table, c.row, ⟨#[]⟩⟩
theorem right_delBy {ok : List UInt8 → Bool} {e : Ev} {T : List Cell} (h : rightE ok e = true) (hn : named T) {c : Cell} (hc : c ∈ T) : rightE ok (delBy e.subject c) = true := by
  unfold rightE at h ⊢
  rw [Bool.and_eq_true] at h
  have e0 : (delBy e.subject c).kind = 2 := rfl
  rw [if_neg (by rw [e0]; decide), if_pos e0]
  simp only [delBy, h.1, (hn c hc).1, (hn c hc).2, Bool.and_eq_true, true_and]
  rfl
theorem fold_dels (ok : List UInt8 → Bool) (s : ByteArray) : ∀ (l : List Cell) {T : List Cell}, Once T → (∀ c ∈ l, rightE ok (delBy s c) = true) → foldT ok (l.map (delBy s)) T = T.filter fun d => !(l.any fun c => decide (ck d = ck c) && decide (txt d.subject = txt s))
  | [], T, _, _ => by
    exact (List.filter_eq_self.2 fun d _ => rfl).symm
  | c :: l, T, ho, hr => by
    have h1 : applyT ok (delBy s c) T = T.filter fun d => !(decide (ck d = ck c) && decide (txt d.subject = txt s)) := by
      unfold applyT
      rw [if_pos (hr c List.mem_cons_self), del_one ho rfl]; rfl
    show foldT ok (l.map (delBy s)) (applyT ok (delBy s c) T) = _
    rw [fold_dels ok s l (ho.apply ok _) (fun d hd => hr d (List.mem_cons_of_mem _ hd)), h1, List.filter_filter]
    refine List.filter_congr fun d _ => ?_
    rw [List.any_cons, Bool.not_or, Bool.and_comm]
/-- A Gone is all Dels. -/
theorem gone_dels (ok : List UInt8 → Bool) {e : Ev} {T l : List Cell} (h : rightE ok e = true) (k : e.kind = 3) (ho : Once T) (hn : named T) (hp : l.Perm T) : foldT ok (l.map (delBy e.subject)) T = applyT ok e T := by
  rw [fold_dels ok e.subject l ho fun c hc => right_delBy h hn (hp.mem_iff.1 hc)]
  unfold applyT stepT
  rw [if_pos h, if_neg (by rw [k]; decide), if_neg (by rw [k]; decide)]
  refine List.filter_congr fun d hd => ?_
  congr 1
  by_cases hs : txt d.subject = txt e.subject
  · simp only [hs, decide_true, Bool.and_true]
    exact List.any_eq_true.2 ⟨d, hp.mem_iff.2 hd, by simp⟩
  · simp [hs]
theorem asc_filter {l : List Cell} (h : Asc l) (p : Cell → Bool) : Asc (l.filter p) := h.sublist List.filter_sublist
end Go.Proofs.YtcbcknfhblamfaaGreatDoor
namespace Go.Proofs.YtcbcknfhblamfaaGreatDoor

/-- What an event takes away. -/
def goesB (e : Ev) (c : Cell) : Bool := (decide (e.kind = 1) && decide (ck c = ek e)) || (decide (e.kind = 2) && decide (ck c = ek e) && decide (txt c.subject = txt e.subject)) || (decide (e.kind = 3) && decide (txt c.subject = txt e.subject))
/-- The document's rows before they are put in order. -/
def refF (e : Ev) (L : List Cell) : List Cell := (L.filter fun c => !goesB e c) ++ if e.kind = 1 then [cellE e] else []
theorem refF_perm (ok : List UInt8 → Bool) {e : Ev} {L T : List Cell} (hp : L.Perm T) (ho : Once T) (hr : rightE ok e = true) : (refF e L).Perm (applyT ok e T) := by
  unfold refF applyT
  rw [if_pos hr]
  rcases kind_cases hr with k | k | k
  · rw [if_pos k]
    have hf : (fun c => !goesB e c) = fun c => !decide (ck c = ek e) := by
      funext c
      unfold goesB
      simp [k]
    have hs : stepT e T = cellE e :: T.filter fun c => !decide (ck c = ek e) := by
      unfold stepT
      rw [if_pos k]; rfl
    rw [hf, hs]
    exact (List.perm_append_singleton _ _).trans ((hp.filter _).cons _)
  · rw [if_neg (by rw [k]; decide), List.append_nil, del_one ho k]
    have hf : (fun c => !goesB e c) = fun c => !(decide (ck c = ek e) && decide (txt c.subject = txt e.subject)) := by
      funext c
      unfold goesB
      simp [k]
    rw [hf]
    exact hp.filter _
  · rw [if_neg (by rw [k]; decide), List.append_nil]
    have hf : (fun c => !goesB e c) = fun c => !decide (txt c.subject = txt e.subject) := by
      funext c
      unfold goesB
      simp [k]
    have hs : stepT e T = T.filter fun c => !decide (txt c.subject = txt e.subject) := by
      unfold stepT
      rw [if_neg (by rw [k]; decide), if_neg (by rw [k]; decide)]; rfl
    rw [hf, hs]
    exact hp.filter _
/-- In order, they are the program's. -/
theorem refF_cells (ok : List UInt8 → Bool) {e : Ev} {L T L' C : List Cell} (hp : L.Perm T) (ho : Once T) (hr : rightE ok e = true) (h1 : L'.Perm (refF e L)) (h2 : Asc L') (h3 : C.Perm (applyT ok e T)) (h4 : Asc C) : L' = C ∧ L'.Perm (applyT ok e T) :=
  have h := h1.trans (refF_perm ok hp ho hr)
  ⟨asc_eq h2 h4 (h.trans h3.symm), h⟩
/-- A row is found in the one as in the other. -/
theorem refGet_same {k : List UInt8 × List UInt8} {L T : List Cell} (hp : L.Perm T) (ho : Once T) : (L.find? fun c => decide (ck c = k)) = findT k T := find_perm hp.symm ho |>.symm
theorem refF_once {e : Ev} {L : List Cell} (h : Once L) : Once (refF e L) := by
  unfold refF
  refine List.pairwise_append.2 ⟨h.filter _, ?_, fun c hc d hd => ?_⟩
  · split
    · exact List.pairwise_singleton ..
    · exact List.Pairwise.nil
  · split at hd
    · rename_i k
      rw [List.mem_singleton] at hd
      subst hd
      have := (List.mem_filter.1 hc).2
      unfold goesB at this
      simp [k] at this
      exact this
    · cases hd
end Go.Proofs.YtcbcknfhblamfaaGreatDoor
