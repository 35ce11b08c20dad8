/- Nothing of it is left: plain laws of SourceForgets. -/
import Derived.Test.YtgckpfeeioljeaaGreatDoorG29
namespace Go.Proofs.YtgckpfeeioljeaaGreatDoor

/-- The last event of a subject: its kind. -/
def lastK (s : ByteArray) (ok : List Ev) : Option Int := ok.foldl (fun a e => if txt e.subject = txt s then some e.kind else a) none
theorem lastK_snoc (s : ByteArray) (ok : List Ev) (e : Ev) : lastK s (ok ++ [e]) = if txt e.subject = txt s then some e.kind else lastK s ok := by
  unfold lastK; rw [List.foldl_append]; rfl
theorem lastK_from (s : ByteArray) : ∀ (ok : List Ev) (a : Option Int), ok.foldl (fun a e => if txt e.subject = txt s then some e.kind else a) a = none → a = none ∧ (ok.any fun e => decide (txt e.subject = txt s)) = false
  | [], _, h => ⟨h, rfl⟩
  | e :: ok, a, h => by
    rw [List.foldl_cons] at h
    obtain ⟨h1, h2⟩ := lastK_from s ok _ h
    by_cases hs : txt e.subject = txt s
    · rw [if_pos hs] at h1; cases h1
    · rw [if_neg hs] at h1
      exact ⟨h1, by rw [List.any_cons, h2]; simp [hs]⟩
theorem lastK_none {s : ByteArray} {ok : List Ev} (h : lastK s ok = none) : (ok.any fun e => decide (txt e.subject = txt s)) = false := (lastK_from s ok none h).2
/-- Who has a key: whose last event was not Gone. -/
theorem has_last {sec : ByteArray} : ∀ (l : List Ev) (R : RunM), Inv sec R.S R.ok → (∀ s, R.S.has s = true ↔ ∃ k, lastK s R.ok = some k ∧ k ≠ 3) → ∀ s, (l.foldl (run1 sec) R).S.has s = true ↔ ∃ k, lastK s (l.foldl (run1 sec) R).ok = some k ∧ k ≠ 3
  | [], _, _, h => h
  | e :: l, R, hi, h => by
    have hi2 : Inv sec (run1 sec R e).S (run1 sec R e).ok := Inv.run [e] R hi
    refine has_last l (run1 sec R e) hi2 ?_
    intro s
    unfold run1
    by_cases hx : doX R.S e = 0
    · rw [if_pos hx]
      dsimp only
      rw [doS_yes hx, lastK_snoc]
      dsimp only
      unfold toldHas
      by_cases hs : txt e.subject = txt s
      · have hs' := txt_inj hs
        subst hs'
        rw [if_pos rfl, updS_same]
        simp
      · rw [if_neg hs, updS_other _ _ (fun e1 => hs (by rw [e1]))]
        exact h s
    · rw [if_neg hx]
      exact h s
theorem run_has (sec : ByteArray) (l : List Ev) (s : ByteArray) : (runM sec l).S.has s = true ↔ ∃ k, lastK s (runM sec l).ok = some k ∧ k ≠ 3 :=
  has_last l R0 (Inv.start sec) (fun s => ⟨(fun h => by cases h), (fun h => by obtain ⟨k, h, _⟩ := h; cases h)⟩) s
/-- The Gone of a subject; and a Put of it. -/
def goneE (s : ByteArray) : Ev := ⟨3, s, ⟨#[]⟩, ⟨#[]⟩, ⟨#[]⟩⟩
def zzE (s : ByteArray) : Ev := ⟨1, s, ⟨#[122, 122]⟩, ⟨#[122, 122]⟩, ⟨#[]⟩⟩
theorem goneE_right (s : ByteArray) : rightE okV (goneE s) = nameB (txt s) := by
  unfold rightE goneE
  cases nameB (txt s) <;> rfl
theorem zzE_right (s : ByteArray) : rightE okV (zzE s) = nameB (txt s) := by
  have h : rightE okV (zzE s) = (nameB (txt s) && rightE okV (zzE ⟨#[97]⟩)) := by
    unfold rightE zzE
    rw [show nameB (txt (⟨#[97]⟩ : ByteArray)) = true from by decide +kernel, Bool.true_and]
  rw [h, show rightE okV (zzE ⟨#[97]⟩) = true from by decide +kernel, Bool.and_true]
theorem goneE_x (S : SrcM) (s : ByteArray) : doX S (goneE s) = if nameB (txt s) = false then 1 else if S.has s = false then 8 else 0 := by
  unfold doX
  rw [if_neg (fun h => absurd h.1 (by show ¬ (3 : Int) = 1; decide)), if_neg (fun h => absurd h.1 (by show ¬ (3 : Int) = 2; decide))]
  unfold tellX
  rw [goneE_right]
  have : (goneE s).kind = 3 := rfl
  simp only [this, true_and]
  rfl
theorem right_name {e : Ev} (h : rightE okV e = true) : nameB (txt e.subject) = true := by
  unfold rightE at h
  rw [Bool.and_eq_true] at h
  exact h.1
/-- If it is refused: none of it was done, or its last one was Gone. -/
theorem refused {sec : ByteArray} {l : List Ev} {s : ByteArray} (h : doX (runM sec l).S (goneE s) ≠ 0) : ((runM sec l).ok.any fun e => decide (txt e.subject = txt s)) = false ∨ lastK s (runM sec l).ok = some 3 := by
  rw [goneE_x] at h
  cases hn : nameB (txt s) with
  | false =>
    refine .inl (List.any_eq_false.2 fun e he => ?_)
    obtain ⟨k, hk⟩ := List.mem_iff_getElem?.1 he
    have h2 := right_name ((runs sec l).acc k e hk).right
    intro h3
    rw [of_decide_eq_true h3, hn] at h2
    cases h2
  | true =>
    rw [hn, if_neg (by simp)] at h
    have hh : (runM sec l).S.has s = false := by
      cases hs : (runM sec l).S.has s with
      | false => rfl
      | true => rw [hs, if_neg (by simp)] at h; exact absurd rfl h
    cases hk : lastK s (runM sec l).ok with
    | none => exact .inl (lastK_none hk)
    | some k =>
      by_cases h3 : k = 3
      · rw [h3]; exact .inr rfl
      · have := (run_has sec l s).2 ⟨k, hk, h3⟩
        rw [hh] at this; cases this
/-- What a Gone leaves. -/
theorem goneE_does {sec : ByteArray} {R : RunM} {s : ByteArray} (h : doX R.S (goneE s) = 0) :
    nameB (txt s) = true ∧ (doS sec R.S (goneE s)).T = goneT (txt s) R.S.T ∧ (doS sec R.S (goneE s)).has s = false ∧ run1 sec R (goneE s) = ⟨doS sec R.S (goneE s), R.ok ++ [goneE s], R.rows ++ [sortC (doS sec R.S (goneE s)).T]⟩ := by
  refine ⟨?_, ?_, ?_, ?_⟩
  · rw [goneE_x] at h
    cases hn : nameB (txt s) with
    | true => rfl
    | false => rw [hn, if_pos rfl] at h; cases h
  · rw [doS_yes h]
    exact stepT_gone (e := goneE s) rfl R.S.T
  · rw [doS_yes h]
    show toldHas R.S.has (goneE s) s = false
    exact updS_same ..
  · unfold run1
    rw [if_pos h]
theorem goneT_sort {T : List Cell} (ho : Once T) (s : ByteArray) : sortC (goneT (txt s) T) = (sortC T).filter fun c => !decide (txt c.subject = txt s) := sortC_filter ho _
/-- Of the records of it none is read. -/
theorem gone_lost {sec : ByteArray} {R : RunM} (HR : Runs sec R) {s : ByteArray} (h : doX R.S (goneE s) = 0) {i : Nat} {r : Rec} {e : Ev} (hr : (run1 sec R (goneE s)).S.L[i]? = some r) (he : R.ok[i]? = some e) :
    isTold sec r e ∧ r.gen ≤ ((run1 sec R (goneE s)).S.many r.subject : Nat) ∧ (txt e.subject = txt s → e.kind ≠ 3 → lostR (run1 sec R (goneE s)).S.many (run1 sec R (goneE s)).S.has r = true) := by
  have H2 := HR.step (goneE s)
  have hi := (List.getElem?_eq_some_iff.1 he).1
  have hok : (run1 sec R (goneE s)).ok = R.ok ++ [goneE s] := by rw [(goneE_does h).2.2.2]
  have he2 : (run1 sec R (goneE s)).ok[i]? = some e := by rw [hok, List.getElem?_append_left hi]; exact he
  obtain ⟨t1, t2, t3, t4, t5⟩ := H2.inv.told i r e hr he2
  refine ⟨t1, t4, fun hs hk => ?_⟩
  rw [t5, hok, List.drop_append_of_le_length (by omega), goneIn_append, goneIn_one]
  have h3 : (goneE s).kind = 3 := rfl
  have h4 : (goneE s).subject = s := rfl
  simp [hk, h3, h4, hs]
/-- A Put of it is refused where the row is another one's alone. -/
theorem zzE_x {S : SrcM} {s : ByteArray} (hn : nameB (txt s) = true) : doX S (zzE s) = 0 ∨ (doX S (zzE s) = 13 ∧ ∃ c ∈ S.T, ck c = ek (zzE s)) := by
  unfold doX
  by_cases h1 : (zzE s).kind = 1 ∧ (findT (ek (zzE s)) S.T).isSome = true ∧ txt ((findT (ek (zzE s)) S.T).getD zeroC).subject ≠ txt (zzE s).subject
  · rw [if_pos h1]
    obtain ⟨c, hc⟩ := Option.isSome_iff_exists.1 h1.2.1
    obtain ⟨hm, hk⟩ := find_mem hc
    exact .inr ⟨rfl, c, hm, hk⟩
  · rw [if_neg h1, if_neg (fun h => absurd h.1 (by show ¬ (1 : Int) = 2; decide))]
    unfold tellX
    rw [zzE_right, hn, if_neg (by simp), if_neg (fun h => absurd h.1 (by show ¬ (1 : Int) = 3; decide))]
    exact .inl rfl
/-- And where it is done, its key is another one. -/
theorem zzE_gen {sec : ByteArray} {S : SrcM} {s : ByteArray} (hh : S.has s = false) : (toldR sec S.many S.has S.L (zzE s)).gen = (S.many s : Int) + 1 := by
  rw [(toldR_fields sec S.many S.has S.L (zzE s)).2.2.2, if_neg (by show ¬ (1 : Int) = 3; decide)]
  unfold makeN
  rw [show (zzE s).subject = s from rfl, hh, if_neg (by simp)]
  rfl
theorem gen_below {sec : ByteArray} {R : RunM} (HR : Runs sec R) {s : ByteArray} {r : Rec} (hr : r ∈ R.S.L) (hs : txt r.subject = txt s) : r.gen ≤ (R.S.many s : Nat) := by
  obtain ⟨i, hi⟩ := List.mem_iff_getElem?.1 hr
  have hk : i < R.ok.length := by rw [← HR.inv.len]; exact (List.getElem?_eq_some_iff.1 hi).1
  obtain ⟨t1, t2, t3, t4, t5⟩ := HR.inv.told i r _ hi (List.getElem?_eq_getElem hk)
  rw [← txt_inj hs]; exact t4
end Go.Proofs.YtgckpfeeioljeaaGreatDoor
