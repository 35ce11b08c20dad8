/- Rows as events leave them: plain lemmas. No program. -/
import Derived.Test.YtcbcknfhblamfaaGreatDoorEventL
namespace Go.Proofs.YtcbcknfhblamfaaGreatDoor

/-! ### The order of texts -/
def cmpL (a b : List UInt8) : Int := if Op.bytesLess a b = true then -1 else if a = b then 0 else 1
theorem bl_irrefl : ∀ a : List UInt8, Op.bytesLess a a = false
  | [] => rfl
  | x :: a => by simp [Op.bytesLess, bl_irrefl a]
theorem bl_trans : ∀ {a b c : List UInt8}, Op.bytesLess a b = true → Op.bytesLess b c = true → Op.bytesLess a c = true
  | [], [], _, h, _ => by simp [Op.bytesLess] at h
  | [], _ :: _, [], _, h => by simp [Op.bytesLess] at h
  | [], _ :: _, _ :: _, _, _ => by simp [Op.bytesLess]
  | _ :: _, [], _, h, _ => by simp [Op.bytesLess] at h
  | _ :: _, _ :: _, [], _, h => by simp [Op.bytesLess] at h
  | x :: a, y :: b, z :: c, h1, h2 => by
    simp only [Op.bytesLess, Bool.or_eq_true, Bool.and_eq_true, decide_eq_true_eq, beq_iff_eq] at h1 h2 ⊢
    rcases h1 with h1 | ⟨rfl, h1⟩
    · rcases h2 with h2 | ⟨rfl, h2⟩
      · exact .inl (UInt8.lt_trans h1 h2)
      · exact .inl h1
    · rcases h2 with h2 | ⟨rfl, h2⟩
      · exact .inl h2
      · exact .inr ⟨rfl, bl_trans h1 h2⟩
theorem bl_total : ∀ {a b : List UInt8}, Op.bytesLess a b = false → Op.bytesLess b a = false → a = b
  | [], [], _, _ => rfl
  | [], _ :: _, h, _ => by simp [Op.bytesLess] at h
  | _ :: _, [], _, h => by simp [Op.bytesLess] at h
  | x :: a, y :: b, h1, h2 => by
    simp only [Op.bytesLess, Bool.or_eq_false_iff, Bool.and_eq_false_iff, decide_eq_false_iff_not, beq_eq_false_iff_ne, ne_eq] at h1 h2
    have e : x = y := by
      apply UInt8.le_antisymm
      · exact UInt8.not_lt.1 h2.1
      · exact UInt8.not_lt.1 h1.1
    subst e
    have h1' : Op.bytesLess a b = false := h1.2.resolve_left (fun h => h rfl)
    have h2' : Op.bytesLess b a = false := h2.2.resolve_left (fun h => h rfl)
    rw [bl_total h1' h2']
theorem cmpL_zero {a b : List UInt8} : cmpL a b = 0 ↔ a = b := by
  unfold cmpL
  split
  · rename_i h
    constructor
    · intro h'; simp at h'
    · intro h'; subst h'; rw [bl_irrefl] at h; simp at h
  · split
    · rename_i h; simp [h]
    · rename_i h; simp [h]
theorem cmpL_neg {a b : List UInt8} : cmpL a b < 0 ↔ Op.bytesLess a b = true := by
  unfold cmpL
  split
  · rename_i h; simp [h]
  · rename_i h
    split
    · simp [h]
    · simp [h]

/-! ### Rows -/
structure Cell where
  table : ByteArray
  row : ByteArray
  subject : ByteArray
  value : ByteArray
instance : Inhabited Cell := ⟨⟨⟨#[]⟩, ⟨#[]⟩, ⟨#[]⟩, ⟨#[]⟩⟩⟩
def zeroC : Cell := ⟨⟨#[]⟩, ⟨#[]⟩, ⟨#[]⟩, ⟨#[]⟩⟩
/-- Which row it is. -/
def ck (c : Cell) : List UInt8 × List UInt8 := (txt c.table, txt c.row)
theorem cell_ext {c d : Cell} (h1 : ck c = ck d) (h2 : txt c.subject = txt d.subject) (h3 : txt c.value = txt d.value) : c = d := by
  obtain ⟨a, b, s, v⟩ := c
  obtain ⟨a', b', s', v'⟩ := d
  simp only [ck, Prod.mk.injEq] at h1 h2 h3
  rw [txt_inj h1.1, txt_inj h1.2, txt_inj h2, txt_inj h3]
def kcmp (a b : List UInt8 × List UInt8) : Int := if cmpL a.1 b.1 = 0 then cmpL a.2 b.2 else cmpL a.1 b.1
def ccmp (a b : Cell) : Int := kcmp (ck a) (ck b)
def kless (a b : List UInt8 × List UInt8) : Bool := Op.bytesLess a.1 b.1 || (decide (a.1 = b.1) && Op.bytesLess a.2 b.2)
theorem kcmp_neg {a b : List UInt8 × List UInt8} : kcmp a b < 0 ↔ kless a b = true := by
  unfold kcmp kless
  by_cases h : a.1 = b.1
  · rw [if_pos (cmpL_zero.2 h), cmpL_neg, h, bl_irrefl]; simp
  · rw [if_neg (fun e => h (cmpL_zero.1 e)), cmpL_neg]; simp [h]
theorem kcmp_zero {a b : List UInt8 × List UInt8} : kcmp a b = 0 ↔ a = b := by
  unfold kcmp
  by_cases h : a.1 = b.1
  · rw [if_pos (cmpL_zero.2 h), cmpL_zero]
    exact ⟨fun h2 => Prod.ext h h2, fun e => by rw [e]⟩
  · rw [if_neg (fun e => h (cmpL_zero.1 e)), cmpL_zero]
    exact ⟨fun h2 => absurd h2 h, fun e => by rw [e]⟩
theorem kless_irrefl (a : List UInt8 × List UInt8) : kless a a = false := by simp [kless, bl_irrefl]
theorem kless_trans {a b c : List UInt8 × List UInt8} (h1 : kless a b = true) (h2 : kless b c = true) : kless a c = true := by
  unfold kless at *
  simp only [Bool.or_eq_true, Bool.and_eq_true, decide_eq_true_eq] at *
  rcases h1 with h1 | ⟨e1, h1⟩
  · rcases h2 with h2 | ⟨e2, h2⟩
    · exact .inl (bl_trans h1 h2)
    · exact .inl (e2 ▸ h1)
  · rcases h2 with h2 | ⟨e2, h2⟩
    · exact .inl (e1 ▸ h2)
    · exact .inr ⟨e1.trans e2, bl_trans h1 h2⟩
theorem kless_total {a b : List UInt8 × List UInt8} (h1 : kless a b = false) (h2 : kless b a = false) : a = b := by
  unfold kless at *
  simp only [Bool.or_eq_false_iff, Bool.and_eq_false_iff, decide_eq_false_iff_not] at *
  have e := bl_total h1.1 h2.1
  exact Prod.ext e (bl_total (h1.2.resolve_left (fun h => h e)) (h2.2.resolve_left (fun h => h e.symm)))

/-- Which row an event is about. -/
def ek (e : Ev) : List UInt8 × List UInt8 := (txt e.table, txt e.row)
def cellE (e : Ev) : Cell := ⟨e.table, e.row, e.subject, e.value⟩
def findT (k : List UInt8 × List UInt8) (T : List Cell) : Option Cell := T.find? fun c => decide (ck c = k)
def delT (k : List UInt8 × List UInt8) (T : List Cell) : List Cell := T.filter fun c => !decide (ck c = k)
def putT (c : Cell) (T : List Cell) : List Cell := c :: delT (ck c) T
def goneT (s : List UInt8) (T : List Cell) : List Cell := T.filter fun c => !decide (txt c.subject = s)
def stepT (e : Ev) (T : List Cell) : List Cell :=
  if e.kind = 1 then putT (cellE e) T
  else if e.kind = 2 then (if txt ((findT (ek e) T).getD zeroC).subject = txt e.subject then delT (ek e) T else T)
  else goneT (txt e.subject) T
def applyT (ok : List UInt8 → Bool) (e : Ev) (T : List Cell) : List Cell := if rightE ok e = true then stepT e T else T
/-- No row twice. -/
def Once (T : List Cell) : Prop := T.Pairwise fun c d => ck c ≠ ck d
theorem Once.filter {T : List Cell} (h : Once T) (p : Cell → Bool) : Once (T.filter p) := h.sublist List.filter_sublist
theorem Once.put {T : List Cell} (h : Once T) (c : Cell) : Once (putT c T) := by
  refine List.Pairwise.cons ?_ (h.filter _)
  intro d hd
  simp only [delT, List.mem_filter, Bool.not_eq_true', decide_eq_false_iff_not] at hd
  exact fun e => hd.2 e.symm
theorem Once.step {T : List Cell} (h : Once T) (e : Ev) : Once (stepT e T) := by
  unfold stepT
  split
  · exact h.put _
  · split
    · split
      · exact h.filter _
      · exact h
    · exact h.filter _
theorem Once.apply {T : List Cell} (h : Once T) (ok : List UInt8 → Bool) (e : Ev) : Once (applyT ok e T) := by
  unfold applyT
  split
  · exact h.step e
  · exact h
theorem once_eq {T : List Cell} (h : Once T) {c d : Cell} (hc : c ∈ T) (hd : d ∈ T) (e : ck c = ck d) : c = d := by
  induction T with
  | nil => cases hc
  | cons a T ih =>
    obtain ⟨h1, h2⟩ := List.pairwise_cons.1 h
    rcases List.mem_cons.1 hc with rfl | hc'
    · rcases List.mem_cons.1 hd with rfl | hd'
      · rfl
      · exact absurd e (h1 d hd')
    · rcases List.mem_cons.1 hd with rfl | hd'
      · exact absurd e.symm (h1 c hc')
      · exact ih h2 hc' hd'
theorem find_some {T : List Cell} (h : Once T) {c : Cell} (hc : c ∈ T) : findT (ck c) T = some c := by
  unfold findT
  cases hf : T.find? fun d => decide (ck d = ck c) with
  | none =>
    have := List.find?_eq_none.1 hf c hc
    simp at this
  | some d =>
    have h1 := List.find?_some hf
    rw [decide_eq_true_eq] at h1
    rw [once_eq h (List.mem_of_find?_eq_some hf) hc h1]
theorem find_mem {k : List UInt8 × List UInt8} {T : List Cell} {c : Cell} (h : findT k T = some c) : c ∈ T ∧ ck c = k :=
  ⟨List.mem_of_find?_eq_some h, by have := List.find?_some h; simpa using this⟩
theorem find_none {k : List UInt8 × List UInt8} {T : List Cell} (h : findT k T = none) : ∀ c ∈ T, ck c ≠ k := fun c hc => by
  have := List.find?_eq_none.1 h c hc
  simpa using this
theorem len_step (e : Ev) (T : List Cell) : (stepT e T).length ≤ T.length + 1 := by
  unfold stepT
  split
  · simp only [putT, delT, List.length_cons]; have := List.length_filter_le (fun c => !decide (ck c = ck (cellE e))) T; omega
  · split
    · split
      · have := List.length_filter_le (fun c => !decide (ck c = ek e)) T; unfold delT; omega
      · omega
    · have := List.length_filter_le (fun c => !decide (txt c.subject = txt e.subject)) T; unfold goneT; omega
end Go.Proofs.YtcbcknfhblamfaaGreatDoor
