/- Told on at another source: plain laws. -/
import Derived.Test.YtgckpfeeioljeaaGreatDoorG29
namespace Go.Proofs.YtgckpfeeioljeaaGreatDoor

/-- Of the first k events, those that are neither lost nor Gone. -/
def keptE (ok : List Ev) : Nat → List Ev
  | 0 => []
  | k + 1 => keptE ok k ++ (match ok[k]? with | some e => if (decide (e.kind ≠ 3) && !goneIn (ok.drop (k + 1)) e.subject) = true then [e] else [] | none => [])
theorem keptE_len (ok : List Ev) (k : Nat) : (keptE ok k).length ≤ k := by
  induction k with
  | zero => exact Nat.le_refl _
  | succ k ih =>
    unfold keptE
    rw [List.length_append]
    split
    · split <;> simp <;> omega
    · simp; omega
theorem run1_yes {sec : ByteArray} {R : RunM} {e : Ev} (hx : doX R.S e = 0) : (run1 sec R e).S = doS sec R.S e := by unfold run1; rw [if_pos hx]
/-- Rows that are left, and what may happen there. -/
theorem again_step {T : List Cell} {S : SrcM} {e : Ev} {p : ByteArray → Bool} (ho : Once T) (ha : accT T e) (hS : S.T = T.filter fun c => !p c.subject) (hk : e.kind ≠ 3) (hp : p e.subject = false) : doX S e = 0 := by
  unfold doX
  rw [hS]
  have hput : ¬ (e.kind = 1 ∧ (findT (ek e) (T.filter fun c => !p c.subject)).isSome = true ∧ txt ((findT (ek e) (T.filter fun c => !p c.subject)).getD zeroC).subject ≠ txt e.subject) := by
    rintro ⟨h1, h2, h3⟩
    obtain ⟨c, hc⟩ := Option.isSome_iff_exists.1 h2
    rw [hc] at h3
    obtain ⟨hm, hck⟩ := find_mem hc
    have h4 := find_some ho (mem_filter_gone hm).1
    rw [hck] at h4
    exact h3 (ha.put h1 c h4)
  have hdel : ¬ (e.kind = 2 ∧ ¬ ((findT (ek e) (T.filter fun c => !p c.subject)).isSome = true ∧ txt ((findT (ek e) (T.filter fun c => !p c.subject)).getD zeroC).subject = txt e.subject)) := by
    rintro ⟨h1, h2⟩
    obtain ⟨c, hc, hs⟩ := ha.del h1
    obtain ⟨hm, hck⟩ := find_mem hc
    have hf : findT (ek e) (T.filter fun c => !p c.subject) = some c := by
      have := find_some (ho.filter fun c => !p c.subject) (List.mem_filter.2 ⟨hm, by rw [txt_inj hs, hp]; rfl⟩)
      rw [hck] at this; exact this
    rw [hf] at h2
    exact h2 ⟨rfl, hs⟩
  rw [if_neg hput, if_neg hdel]
  unfold tellX
  rw [ha.right, if_neg (by simp), if_neg (fun h => hk h.1)]
theorem again {sec : ByteArray} {R : RunM} (h : Runs sec R) (sec2 : ByteArray) : ∀ k, k ≤ R.ok.length → (runM sec2 (keptE R.ok k)).S.T = (tabN R.ok k).filter (fun c => !goneIn (R.ok.drop k) c.subject) := by
  intro k
  induction k with
  | zero => intro _; rfl
  | succ k ih =>
    intro hk
    have i1 := ih (by omega)
    have he : R.ok[k]? = some (R.ok[k]'(by omega)) := List.getElem?_eq_getElem _
    generalize (R.ok[k]'(by omega)) = e at he
    have ha := h.acc k e he
    have ho := tabN_once R.ok k
    have hd : R.ok.drop k = e :: R.ok.drop (k + 1) := by
      rw [List.drop_eq_getElem_cons (by omega)]
      congr 1
      have := List.getElem?_eq_getElem (l := R.ok) (i := k) (by omega)
      rw [he] at this
      exact (Option.some.inj this).symm
    have hpq : ∀ s, goneIn (R.ok.drop k) s = ((decide (e.kind = 3) && decide (txt e.subject = txt s)) || goneIn (R.ok.drop (k + 1)) s) := fun s => by rw [hd, goneIn_cons]
    have LS := late_step ho ha hpq
    rw [tabN_succ he, ← LS]
    unfold keptE
    rw [he]
    dsimp only
    by_cases hk3 : e.kind = 3
    · rw [if_neg (by simp [hk3]), if_neg (by simp [hk3]), List.append_nil, i1, stepT_gone hk3]
      unfold goneT
      rw [List.filter_filter]
      apply List.filter_congr
      intro c _
      rw [hpq]
      by_cases hs : txt c.subject = txt e.subject
      · simp [hs, hk3]
      · have : ¬ txt e.subject = txt c.subject := fun e1 => hs e1.symm
        simp [hs, hk3]
    · cases hg : goneIn (R.ok.drop (k + 1)) e.subject with
      | true => rw [if_neg (by simp), if_pos (by simp [hk3]), List.append_nil, i1]
      | false =>
        have hq : goneIn (R.ok.drop k) e.subject = false := by rw [hpq, hg]; simp [hk3]
        rw [if_pos (by simp [hk3]), if_neg (by simp), runM_snoc]
        have hx := again_step ho ha i1 hk3 hq
        rw [run1_yes hx, doS_yes hx]
        dsimp only
        rw [i1]
theorem again_all {sec : ByteArray} {R : RunM} (h : Runs sec R) (sec2 : ByteArray) : (runM sec2 (keptE R.ok R.ok.length)).S.T = R.S.T := by
  rw [again h sec2 _ (Nat.le_refl _), List.drop_length, h.tab]
  simp [goneIn_nil]
/-- One of them. -/
theorem again_next {sec : ByteArray} {R : RunM} (h : Runs sec R) (sec2 : ByteArray) {k : Nat} {r : Rec} {e : Ev} (hr : R.S.L[k]? = some r) (he : R.ok[k]? = some e) :
    (lostR R.S.many R.S.has r = true → keptE R.ok (k + 1) = keptE R.ok k) ∧ (e.kind = 3 → keptE R.ok (k + 1) = keptE R.ok k) ∧
    (lostR R.S.many R.S.has r = false → e.kind ≠ 3 → keptE R.ok (k + 1) = keptE R.ok k ++ [e] ∧ doX (runM sec2 (keptE R.ok k)).S e = 0) := by
  obtain ⟨t1, t2, t3, t4, t5⟩ := h.inv.told k r e hr he
  have hk := (List.getElem?_eq_some_iff.1 he).1
  have hu : keptE R.ok (k + 1) = keptE R.ok k ++ (if (decide (e.kind ≠ 3) && !goneIn (R.ok.drop (k + 1)) e.subject) = true then [e] else []) := by
    show keptE R.ok k ++ _ = _
    rw [he]
  rw [hu, t5]
  refine ⟨fun hl => ?_, fun h3 => ?_, fun hl h3 => ?_⟩
  · rw [Bool.and_eq_true] at hl
    rw [hl.2, if_neg (by simp), List.append_nil]
  · rw [if_neg (by simp [h3]), List.append_nil]
  · have hg : goneIn (R.ok.drop (k + 1)) e.subject = false := by simpa [h3] using hl
    rw [if_pos (by simp [h3, hg])]
    refine ⟨rfl, again_step (tabN_once R.ok k) (h.acc k e he) (again h sec2 k (by omega)) h3 ?_⟩
    have hd : R.ok.drop k = e :: R.ok.drop (k + 1) := by
      rw [List.drop_eq_getElem_cons hk]
      congr 1
      have := List.getElem?_eq_getElem hk
      rw [he] at this
      exact (Option.some.inj this).symm
    rw [hd, goneIn_cons, hg]
    simp [h3]
end Go.Proofs.YtgckpfeeioljeaaGreatDoor
