/- A reader that goes on: plain laws. -/
import Derived.Test.YtafdigdopeahdaaGreatDoorG37
namespace Go.Proofs.YtafdigdopeahdaaGreatDoor

/-! ### Rows in another order -/
theorem Once.of_perm {T U : List Cell} (h : Once T) (hp : T.Perm U) : Once U := List.Pairwise.perm h hp (fun h => Ne.symm h)
theorem find_perm {T U : List Cell} (hT : Once T) (hp : U.Perm T) (k : List UInt8 × List UInt8) : findT k U = findT k T := by
  have hU : Once U := hT.of_perm hp.symm
  cases h : findT k T with
  | some c =>
    obtain ⟨hm, hk⟩ := find_mem h
    have := find_some hU (hp.mem_iff.2 hm)
    rw [hk] at this; exact this
  | none =>
    cases h2 : findT k U with
    | none => rfl
    | some c =>
      obtain ⟨hm, hk⟩ := find_mem h2
      have := find_some hT (hp.mem_iff.1 hm)
      rw [hk, h] at this; cases this
theorem stepT_perm {T U : List Cell} (hT : Once T) (hp : U.Perm T) (e : Ev) : (stepT e U).Perm (stepT e T) := by
  unfold stepT
  rw [find_perm hT hp]
  unfold putT delT goneT
  split
  · exact (hp.filter _).cons _
  · split
    · split
      · exact hp.filter _
      · exact hp
    · exact hp.filter _
/-- A reader that has the same, but for the order of its rows. -/
structure same (R U : RdM) : Prop where
  seq : U.seq = R.seq
  mark : U.mark = R.mark
  lost : U.lost = R.lost
  rows : U.T.Perm R.T
theorem same.read {R U : RdM} (h : same R U) (hT : Once R.T) (many : ByteArray → Nat) (has : ByteArray → Bool) (r : Rec) (e : Ev) : same (readM many has R r e) (readM many has U r e) := by
  unfold readM
  refine ⟨by dsimp only; rw [h.seq], rfl, by dsimp only; rw [h.lost], ?_⟩
  dsimp only
  split
  · exact h.rows
  · exact stepT_perm hT h.rows e
theorem readM_once {R : RdM} (h : Once R.T) (many : ByteArray → Nat) (has : ByteArray → Bool) (r : Rec) (e : Ev) : Once (readM many has R r e).T := by
  unfold readM
  dsimp only
  split
  · exact h
  · exact h.step e
/-! ### What is forgotten by then -/
theorem on_step {T tab : List Cell} {e : Ev} {p q : ByteArray → Bool} (hoT : Once T) (ho : Once tab) (ha : accT tab e) (heq : T.filter (fun c => !q c.subject) = tab.filter fun c => !q c.subject)
    (hpq : ∀ s, q s = ((decide (e.kind = 3) && decide (txt e.subject = txt s)) || p s)) :
    ((if (decide (e.kind ≠ 3) && p e.subject) = true then T else stepT e T).filter fun c => !p c.subject) = (stepT e tab).filter fun c => !p c.subject := by
  have hkind := kind_cases ha.right
  by_cases hk3 : e.kind = 3
  · rw [if_neg (by simp [hk3]), stepT_gone hk3, stepT_gone hk3]
    unfold goneT
    rw [List.filter_filter, List.filter_filter]
    have hq : ∀ c : Cell, (!p c.subject && decide (txt c.subject ≠ txt e.subject)) = !q c.subject := by
      intro c
      rw [hpq]
      by_cases hs : txt c.subject = txt e.subject
      · simp [hs, hk3]
      · have : ¬ txt e.subject = txt c.subject := fun e1 => hs e1.symm
        simp [hs, this]
    have e1 : ∀ L : List Cell, L.filter (fun c => (!p c.subject) && decide (txt c.subject ≠ txt e.subject)) = L.filter fun c => !q c.subject := fun L => List.filter_congr (fun c _ => hq c)
    have e2 := (e1 T).trans (heq.trans (e1 tab).symm)
    simpa using e2
  · have hq : q = p := funext fun s => by rw [hpq]; simp [hk3]
    subst hq
    by_cases hg : q e.subject = true
    · rw [if_pos (by simp [hk3, hg]), heq]
      have LS := late_step (p := q) (q := q) ho ha hpq
      rw [if_pos (by simp [hk3, hg])] at LS
      exact LS
    · rw [if_neg (by simp [hg])]
      have LS := late_step (p := q) (q := q) ho ha hpq
      rw [if_neg (by simp [hg])] at LS
      rw [← LS]
      rw [← heq]
      rcases hkind with hk | hk | hk
      · rw [stepT_put hk, stepT_put hk]
        unfold putT delT
        rw [List.filter_cons, if_pos (by show (!q e.subject) = true; simp [hg]), List.filter_filter, List.filter_filter]
        congr 1
        apply List.filter_congr
        intro c _
        exact Bool.and_comm _ _
      · obtain ⟨c, hc, hs⟩ := ha.del hk
        obtain ⟨hm, hck⟩ := find_mem hc
        have hmem : c ∈ T.filter fun c => !q c.subject := by rw [heq]; exact List.mem_filter.2 ⟨hm, by rw [txt_inj hs]; simp [hg]⟩
        have hf1 : findT (ek e) T = some c := by
          have := find_some hoT (List.mem_filter.1 hmem).1
          rw [hck] at this; exact this
        have hf2 : findT (ek e) (T.filter fun c => !q c.subject) = some c := by
          have := find_some (hoT.filter fun c => !q c.subject) hmem
          rw [hck] at this; exact this
        rw [stepT_del hk hf1 hs, stepT_del hk hf2 hs]
        unfold delT
        rw [List.filter_filter, List.filter_filter]
        apply List.filter_congr
        intro c _
        exact Bool.and_comm _ _
      · exact absurd hk hk3
/-! ### One that has read some, and goes on as more is told -/
def goOn (R : RunM) (k : Nat) (U : RdM) (i : Nat) : RdM := follN R.S.many R.S.has (R.S.L.drop k) (R.ok.drop k) U i
theorem goOn_zero (R : RunM) (k : Nat) (U : RdM) : goOn R k U 0 = U := rfl
theorem goOn_succ {R : RunM} {k i : Nat} {U : RdM} {r : Rec} {e : Ev} (h1 : R.S.L[k + i]? = some r) (h2 : R.ok[k + i]? = some e) : goOn R k U (i + 1) = readM R.S.many R.S.has (goOn R k U i) r e :=
  follN_succ (by rw [List.getElem?_drop]; exact h1) (by rw [List.getElem?_drop]; exact h2)
theorem go_on {sec : ByteArray} {R : RunM} (h : Runs sec R) {k : Nat} {U : RdM} (hs : U.seq = k) (hm : U.mark = headR (R.S.L.take k)) (hU : Once U.T)
    (hT : U.T.filter (fun c => !goneIn (R.ok.drop k) c.subject) = (tabN R.ok k).filter fun c => !goneIn (R.ok.drop k) c.subject) : ∀ i, k + i ≤ R.ok.length →
    (goOn R k U i).seq = k + i ∧ (goOn R k U i).mark = headR (R.S.L.take (k + i)) ∧ Once (goOn R k U i).T ∧
    (goOn R k U i).T.filter (fun c => !goneIn (R.ok.drop (k + i)) c.subject) = (tabN R.ok (k + i)).filter fun c => !goneIn (R.ok.drop (k + i)) c.subject := by
  intro i
  induction i with
  | zero => intro _; exact ⟨hs, hm, hU, hT⟩
  | succ i ih =>
    intro hk
    obtain ⟨i1, i2, i3, i4⟩ := ih (by omega)
    have hr : R.S.L[k + i]? = some (R.S.L[k + i]'(by rw [h.inv.len]; omega)) := List.getElem?_eq_getElem _
    have he : R.ok[k + i]? = some (R.ok[k + i]'(by omega)) := List.getElem?_eq_getElem _
    generalize (R.S.L[k + i]'(by rw [h.inv.len]; omega)) = r at hr
    generalize (R.ok[k + i]'(by omega)) = e at he
    obtain ⟨t1, t2, t3, t4, t5⟩ := h.inv.told (k + i) r e hr he
    rw [goOn_succ hr he]
    refine ⟨?_, ?_, readM_once i3 _ _ _ _, ?_⟩
    · show (goOn R k U i).seq + 1 = _
      rw [i1]; rfl
    · show mkS (mkB r) = _
      rw [← Nat.add_assoc, List.take_add_one, hr, Option.toList_some, headR_snoc]
    · unfold readM
      dsimp only
      rw [t5, ← Nat.add_assoc, tabN_succ he]
      refine on_step i3 (tabN_once _ _) (h.acc _ e he) i4 (fun s => ?_)
      have hd : R.ok.drop (k + i) = e :: R.ok.drop (k + i + 1) := by
        rw [List.drop_eq_getElem_cons (by omega)]
        congr 1
        have := List.getElem?_eq_getElem (l := R.ok) (i := k + i) (by omega)
        rw [he] at this
        exact (Option.some.inj this).symm
      rw [hd, goneIn_cons]
/-! ### Runs that go on -/
theorem run1_more (sec : ByteArray) (R : RunM) (e : Ev) : ∃ t u, (run1 sec R e).S.L = R.S.L ++ t ∧ (run1 sec R e).ok = R.ok ++ u := by
  unfold run1
  split
  · rename_i hx
    dsimp only
    rw [doS_yes hx]
    exact ⟨_, _, rfl, rfl⟩
  · exact ⟨[], [], by simp, by simp⟩
theorem runs_more (sec : ByteArray) : ∀ (m : List Ev) (R : RunM), ∃ t u, (m.foldl (run1 sec) R).S.L = R.S.L ++ t ∧ (m.foldl (run1 sec) R).ok = R.ok ++ u
  | [], _ => ⟨[], [], by simp, by simp⟩
  | e :: m, R => by
    obtain ⟨t1, u1, h1, g1⟩ := run1_more sec R e
    obtain ⟨t2, u2, h2, g2⟩ := runs_more sec m (run1 sec R e)
    exact ⟨t1 ++ t2, u1 ++ u2, by rw [List.foldl_cons, h2, h1, List.append_assoc], by rw [List.foldl_cons, g2, g1, List.append_assoc]⟩
theorem run_more (sec : ByteArray) (l m : List Ev) : ∃ t u, (runM sec (l ++ m)).S.L = (runM sec l).S.L ++ t ∧ (runM sec (l ++ m)).ok = (runM sec l).ok ++ u := by
  unfold runM
  rw [List.foldl_append]
  exact runs_more sec m _
/-- What a reader of the first k has when it goes on with a longer run. -/
theorem on_start {sec : ByteArray} {R1 R2 : RunM} (h1 : Runs sec R1) {t : List Rec} {u : List Ev} (hL : R2.S.L = R1.S.L ++ t) (ho : R2.ok = R1.ok ++ u) {k : Nat} (hk : k ≤ R1.ok.length) :
    let U := follN R1.S.many R1.S.has R1.S.L R1.ok RD0 k
    U.seq = k ∧ U.mark = headR (R2.S.L.take k) ∧ Once U.T ∧ U.T.filter (fun c => !goneIn (R2.ok.drop k) c.subject) = (tabN R2.ok k).filter fun c => !goneIn (R2.ok.drop k) c.subject := by
  obtain ⟨l1, l2, l3, _⟩ := late h1 k hk
  dsimp only
  refine ⟨l1, ?_, ?_, ?_⟩
  · rw [l2, hL, List.take_append_of_le_length (by rw [h1.inv.len]; exact hk)]
  · rw [l3]; exact (tabN_once _ _).filter _
  · rw [l3, ho, tabN_append hk, List.filter_filter, List.drop_append_of_le_length hk]
    apply List.filter_congr
    intro c _
    rw [goneIn_append]
    cases goneIn (R1.ok.drop k) c.subject <;> simp
theorem on_end {sec : ByteArray} {R : RunM} (h : Runs sec R) {U : RdM} (hT : U.T.filter (fun c => !goneIn (R.ok.drop R.ok.length) c.subject) = (tabN R.ok R.ok.length).filter fun c => !goneIn (R.ok.drop R.ok.length) c.subject) : U.T = R.S.T := by
  rw [List.drop_length] at hT
  rw [h.tab]
  have e : ∀ L : List Cell, L.filter (fun c => !goneIn [] c.subject) = L := fun L => List.filter_eq_self.2 (fun c _ => rfl)
  rw [e, e] at hT
  exact hT
/-! ### Rows that are put, one behind the other -/
def putAll : List Cell → List Cell → List Cell
  | [], T => T
  | c :: r, T => putAll r (putT c T)
theorem putAll_snoc (l : List Cell) (c : Cell) (T : List Cell) : putAll (l ++ [c]) T = putT c (putAll l T) := by
  induction l generalizing T with
  | nil => rfl
  | cons x l ih => exact ih _
theorem put_new {T : List Cell} {c : Cell} (h : ∀ d ∈ T, ck d ≠ ck c) : putT c T = c :: T := by
  unfold putT delT
  rw [List.filter_eq_self.2 (fun d hd => by simpa using h d hd)]
theorem putAll_perm : ∀ l : List Cell, Once l → (putAll l []).Perm l := by
  intro l
  suffices h : ∀ (l T : List Cell), Once (T ++ l) → (putAll l T).Perm (T ++ l) by
    intro ho; simpa using h l [] (by simpa using ho)
  intro l
  induction l with
  | nil => intro T _; simp [putAll]
  | cons c l ih =>
    intro T ho
    have hn : ∀ d ∈ T, ck d ≠ ck c := fun d hd => by
      have := List.pairwise_append.1 ho
      exact this.2.2 d hd c (by simp)
    show (putAll l (putT c T)).Perm _
    rw [put_new hn]
    have hp : (T ++ c :: l).Perm (c :: T ++ l) := by simp
    exact (ih _ (ho.of_perm hp)).trans hp.symm
end Go.Proofs.YtafdigdopeahdaaGreatDoor
