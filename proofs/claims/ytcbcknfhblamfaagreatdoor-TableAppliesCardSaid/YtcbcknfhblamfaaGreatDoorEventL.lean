/- Events as text, plain. No program. -/
import Derived.Test.YtcbcknfhblamfaaGreatDoorNameL
import Derived.Lib.SplitLaws
import Derived.Lib.IndexMore
namespace Go.Proofs.YtcbcknfhblamfaaGreatDoor

/-- An event. -/
structure Ev where
  kind : Int
  subject : ByteArray
  table : ByteArray
  row : ByteArray
  value : ByteArray
def txt (s : ByteArray) : List UInt8 := s.data.toList
def mkT (l : List UInt8) : ByteArray := ⟨l.toArray⟩
theorem txt_mkT (l : List UInt8) : txt (mkT l) = l := rfl
theorem mkT_txt (s : ByteArray) : mkT (txt s) = s := rfl
theorem txt_inj {s t : ByteArray} (h : txt s = txt t) : s = t := by rw [← mkT_txt s, h, mkT_txt]

theorem occ_one (l : List UInt8) (c : UInt8) (i : Nat) : Lib.occAt l [c] i = true ↔ l[i]? = some c := by
  constructor
  · intro h; exact Lib.occAt_head rfl h
  · intro h
    obtain ⟨hi, hc⟩ := List.getElem?_eq_some_iff.1 h
    rw [Lib.occAt_iff_take l [c] i (by simp; omega)]
    rw [beq_iff_eq]
    rw [List.drop_eq_getElem_cons hi, hc]
    simp
theorem split_blank (a b : List UInt8) (k : Nat) (c : UInt8) (h : c ∉ a) : Lib.splitK [c] 0 (k + 1) (a ++ c :: b) = a :: Lib.splitK [c] 0 k b := by
  have hi : Lib.index (a ++ c :: b) [c] = a.length := by
    refine Lib.index_first (i := a.length) (by simp) ((occ_one _ _ _).2 (by simp)) ?_
    intro j hj
    cases h2 : Lib.occAt (a ++ c :: b) [c] j with
    | false => rfl
    | true =>
      have := (occ_one _ _ _).1 h2
      rw [List.getElem?_append_left hj] at this
      exact absurd (List.mem_of_getElem? this) h
  rw [Lib.splitK, hi, if_neg (by rw [beq_iff_eq]; omega)]
  simp
theorem split_whole (a : List UInt8) (k : Nat) (c : UInt8) (h : c ∉ a) : Lib.splitK [c] 0 k a = [a] := by
  cases k with
  | zero => rfl
  | succ k =>
    have hi : Lib.index a [c] = -1 := by
      refine Lib.index_none ?_
      intro j hj
      cases h2 : Lib.occAt a [c] j with
      | false => rfl
      | true => exact absurd (List.mem_of_getElem? ((occ_one _ _ _).1 h2)) h
    rw [Lib.splitK, hi]; rfl
/-- A text is whole or has a first blank. -/
theorem blank_cases (l : List UInt8) (c : UInt8) : c ∉ l ∨ ∃ a b, c ∉ a ∧ l = a ++ c :: b := by
  induction l with
  | nil => exact .inl (by simp)
  | cons x l ih =>
    by_cases hx : x = c
    · subst hx; exact .inr ⟨[], l, by simp, rfl⟩
    · rcases ih with h | ⟨a, b, h1, rfl⟩
      · exact .inl (by simp [h, Ne.symm hx])
      · exact .inr ⟨x :: a, b, by simp [h1, Ne.symm hx], rfl⟩
/-- The pieces, with the sign between them. -/
def joinL (c : UInt8) : List (List UInt8) → List UInt8
  | [] => []
  | [a] => a
  | a :: b :: r => a ++ c :: joinL c (b :: r)
theorem split_ne (c : UInt8) (k : Nat) (l : List UInt8) : Lib.splitK [c] 0 k l ≠ [] := by
  cases k with
  | zero => simp [Lib.splitK]
  | succ k => unfold Lib.splitK; split <;> simp
theorem join_split (c : UInt8) : ∀ (k : Nat) (l : List UInt8), joinL c (Lib.splitK [c] 0 k l) = l
  | 0, _ => rfl
  | k + 1, l => by
    rcases blank_cases l c with h | ⟨a, b, h, rfl⟩
    · rw [split_whole _ _ _ h]; rfl
    · rw [split_blank _ _ _ _ h]
      have ih := join_split c k b
      cases hs : Lib.splitK [c] 0 k b with
      | nil => exact absurd hs (split_ne c k b)
      | cons x r => rw [hs] at ih; show a ++ c :: joinL c (x :: r) = _; rw [ih]

def wordL (k : Int) : List UInt8 := if k = 1 then [112, 117, 116] else if k = 2 then [100, 101, 108] else if k = 3 then [103, 111, 110, 101] else []
/-- What an event may be; of the value, 'ok' says. -/
def rightE (ok : List UInt8 → Bool) (e : Ev) : Bool :=
  nameB (txt e.subject) &&
  (if e.kind = 1 then nameB (txt e.table) && nameB (txt e.row) && decide (e.value.size ≤ 20) && ok (txt e.value)
   else if e.kind = 2 then nameB (txt e.table) && nameB (txt e.row) && decide (e.value.size = 0)
   else if e.kind = 3 then decide (e.table.size = 0) && decide (e.row.size = 0) && decide (e.value.size = 0) else false)
/-- An event's text. -/
def printL (e : Ev) : List UInt8 :=
  wordL e.kind ++ 32 :: txt e.subject ++ (if e.kind = 1 then 32 :: txt e.table ++ 32 :: txt e.row ++ 32 :: txt e.value else if e.kind = 2 then 32 :: txt e.table ++ 32 :: txt e.row else [])
def pieces (s : List UInt8) : List (List UInt8) := Lib.splitK [32] 0 4 s
/-- Which word it is. -/
def kindOf (w : List UInt8) : Int := if w = [112, 117, 116] then 1 else if w = [100, 101, 108] then 2 else if w = [103, 111, 110, 101] then 3 else 0
def manyOf (k : Int) : Nat := if k = 1 then 5 else if k = 2 then 4 else if k = 3 then 2 else 0
/-- What the text's pieces say. -/
def readL (ps : List (List UInt8)) : Ev :=
  let k := kindOf (ps.getD 0 [])
  ⟨k, mkT (ps.getD 1 []), if k = 1 ∨ k = 2 then mkT (ps.getD 2 []) else mkT [], if k = 1 ∨ k = 2 then mkT (ps.getD 3 []) else mkT [], if k = 1 then mkT (ps.getD 4 []) else mkT []⟩
def parses (ok : List UInt8 → Bool) (s : List UInt8) : Prop := (pieces s).length = manyOf (kindOf ((pieces s).getD 0 [])) ∧ rightE ok (readL (pieces s)) = true

theorem kind_cases {ok : List UInt8 → Bool} {e : Ev} (h : rightE ok e = true) : e.kind = 1 ∨ e.kind = 2 ∨ e.kind = 3 := by
  unfold rightE at h
  rw [Bool.and_eq_true] at h
  by_cases h1 : e.kind = 1
  · exact .inl h1
  · by_cases h2 : e.kind = 2
    · exact .inr (.inl h2)
    · by_cases h3 : e.kind = 3
      · exact .inr (.inr h3)
      · rw [if_neg h1, if_neg h2, if_neg h3] at h; simp at h
theorem blank_word (k : Int) : (32 : UInt8) ∉ wordL k := by unfold wordL; split <;> (try split) <;> (try split) <;> decide
theorem empty_of_size {s : ByteArray} (h : s.size = 0) : s = mkT [] := by
  apply txt_inj
  have e : (txt s).length = s.size := by unfold txt; rw [Array.length_toList]; rfl
  exact List.length_eq_zero_iff.1 (e.trans h)
/-- What is written is read. -/
theorem read_print {ok : List UInt8 → Bool} {e : Ev} (h : rightE ok e = true) : parses ok (printL e) ∧ readL (pieces (printL e)) = e := by
  have hR := h
  have hk := kind_cases h
  obtain ⟨k, s, t, r, v⟩ := e
  unfold rightE at h
  rw [Bool.and_eq_true] at h
  obtain ⟨hs, h⟩ := h
  have bs := nameB_blank hs
  dsimp only at *
  rcases hk with rfl | rfl | rfl
  · rw [if_pos rfl] at h
    simp only [Bool.and_eq_true] at h
    obtain ⟨⟨⟨ht, hr⟩, hv⟩, ho⟩ := h
    have bt := nameB_blank ht
    have br := nameB_blank hr
    have hp : pieces (printL ⟨1, s, t, r, v⟩) = [wordL 1, txt s, txt t, txt r, txt v] := by
      unfold pieces printL
      rw [if_pos rfl]
      simp only [List.append_assoc, List.cons_append]
      rw [split_blank _ _ _ _ (blank_word 1), split_blank _ _ _ _ bs, split_blank _ _ _ _ bt, split_blank _ _ _ _ br]
      rfl
    have e : readL (pieces (printL ⟨1, s, t, r, v⟩)) = ⟨1, s, t, r, v⟩ := by rw [hp]; rfl
    refine ⟨⟨?_, by rw [e]; exact hR⟩, e⟩
    rw [hp]; rfl
  · rw [if_neg (by decide), if_pos rfl] at h
    simp only [Bool.and_eq_true, decide_eq_true_eq] at h
    obtain ⟨⟨ht, hr⟩, hv⟩ := h
    obtain rfl := empty_of_size hv
    have bt := nameB_blank ht
    have br := nameB_blank hr
    have hp : pieces (printL ⟨2, s, t, r, mkT []⟩) = [wordL 2, txt s, txt t, txt r] := by
      unfold pieces printL
      rw [if_neg (show ¬ ((2 : Int) = 1) by decide), if_pos rfl]
      simp only [List.append_assoc, List.cons_append]
      rw [split_blank _ _ _ _ (blank_word 2), split_blank _ _ _ _ bs, split_blank _ _ _ _ bt, split_whole _ _ _ br]
    have e : readL (pieces (printL ⟨2, s, t, r, mkT []⟩)) = ⟨2, s, t, r, mkT []⟩ := by rw [hp]; rfl
    refine ⟨⟨?_, by rw [e]; exact hR⟩, e⟩
    rw [hp]; rfl
  · rw [if_neg (by decide), if_neg (by decide), if_pos rfl] at h
    simp only [Bool.and_eq_true, decide_eq_true_eq] at h
    obtain ⟨⟨ht, hr⟩, hv⟩ := h
    obtain rfl := empty_of_size hv
    obtain rfl := empty_of_size ht
    obtain rfl := empty_of_size hr
    have hp : pieces (printL ⟨3, s, mkT [], mkT [], mkT []⟩) = [wordL 3, txt s] := by
      unfold pieces printL
      rw [if_neg (show ¬ ((3 : Int) = 1) by decide), if_neg (show ¬ ((3 : Int) = 2) by decide), List.append_nil]
      rw [split_blank _ _ _ _ (blank_word 3), split_whole _ _ _ bs]
    have e : readL (pieces (printL ⟨3, s, mkT [], mkT [], mkT []⟩)) = ⟨3, s, mkT [], mkT [], mkT []⟩ := by rw [hp]; rfl
    refine ⟨⟨?_, by rw [e]; exact hR⟩, e⟩
    rw [hp]; rfl
theorem word_of_kind {w : List UInt8} (h : kindOf w ≠ 0) : wordL (kindOf w) = w := by
  unfold kindOf at h ⊢
  by_cases h1 : w = [112, 117, 116]
  · subst h1; rfl
  · by_cases h2 : w = [100, 101, 108]
    · subst h2; rfl
    · by_cases h3 : w = [103, 111, 110, 101]
      · subst h3; rfl
      · rw [if_neg h1, if_neg h2, if_neg h3] at h; exact absurd rfl h
/-- What is read is written. -/
theorem print_read {ok : List UInt8 → Bool} {s : List UInt8} (h : parses ok s) : printL (readL (pieces s)) = s := by
  obtain ⟨hl, hr⟩ := h
  have hj : joinL 32 (pieces s) = s := join_split 32 4 s
  have hk : kindOf ((pieces s).getD 0 []) = 1 ∨ kindOf ((pieces s).getD 0 []) = 2 ∨ kindOf ((pieces s).getD 0 []) = 3 := kind_cases hr
  have hw := word_of_kind (w := (pieces s).getD 0 []) (by omega)
  generalize pieces s = ps at *
  have e1 : (readL ps).kind = kindOf (ps.getD 0 []) := rfl
  unfold printL
  rw [e1]
  rcases hk with hk | hk | hk
  · rw [hk] at hl hw
    match ps, hl with
    | [a, b, c, d, x], _ =>
      have ha : wordL 1 = a := hw
      rw [hk, if_pos rfl, ha, ← hj]
      have hka : kindOf a = 1 := hk
      simp [readL, joinL, hka, txt_mkT]
  · rw [hk] at hl hw
    match ps, hl with
    | [a, b, c, d], _ =>
      have ha : wordL 2 = a := hw
      rw [hk, if_neg (by decide), if_pos rfl, ha, ← hj]
      have hka : kindOf a = 2 := hk
      simp [readL, joinL, hka, txt_mkT]
  · rw [hk] at hl hw
    match ps, hl with
    | [a, b], _ =>
      have ha : wordL 3 = a := hw
      rw [hk, if_neg (by decide), if_neg (by decide), ha, ← hj]
      simp [readL, joinL, txt_mkT]
end Go.Proofs.YtcbcknfhblamfaaGreatDoor
