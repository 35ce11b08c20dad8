/- The texts that a range over a map of texts to bools has handed out so far: plain laws. -/
import Derived.Test.YtnmpchojhbmbmaaGreatDoorProg
import Derived.Test.YtnmpchojhbmbmaaGreatDoorG24
namespace Go.Proofs.YtnmpchojhbmbmaaGreatDoor
open Go.RowKit Go.WideShapes

/-- What is gathered: those that are struck off, and true. -/
structure accT (M : List (ByteArray × Bool)) (left : Lit → Bool) (acc : List ByteArray) : Prop where
  once : (acc.map txt).Nodup
  iff : ∀ k : ByteArray, txt k ∈ acc.map txt ↔ ∃ p ∈ M, txt p.1 = txt k ∧ p.2 = true ∧ left (.string (txt p.1)) = false
theorem accT.start {M : List (ByteArray × Bool)} {left : Lit → Bool} (h : ∀ p ∈ M, left (.string (txt p.1)) = true) : accT M left [] := by
  refine ⟨List.nodup_nil, fun k => ⟨(fun h => by cases h), ?_⟩⟩
  rintro ⟨p, hp, _, _, hl⟩
  rw [h p hp] at hl; cases hl
theorem strike_self (left : Lit → Bool) (k : ByteArray) : strikeS left k (.string (txt k)) = false := by
  unfold strikeS; rw [sameS]; simp
theorem strike_other {left : Lit → Bool} {k q : ByteArray} (h : txt q ≠ txt k) : strikeS left k (.string (txt q)) = left (.string (txt q)) := by
  unfold strikeS; rw [sameS]; simp [h]
theorem accT.skip {M : List (ByteArray × Bool)} {left : Lit → Bool} {acc : List ByteArray} (hM : OnceS M) (h : accT M left acc) {p : ByteArray × Bool} (hp : p ∈ M) (hb : p.2 = false) : accT M (strikeS left p.1) acc := by
  refine ⟨h.once, fun k => (h.iff k).trans ⟨?_, ?_⟩⟩
  · rintro ⟨q, hq, hk, ht, hl⟩
    refine ⟨q, hq, hk, ht, ?_⟩
    unfold strikeS; rw [hl]; rfl
  · rintro ⟨q, hq, hk, ht, hl⟩
    by_cases hqp : txt q.1 = txt p.1
    · rw [hM.eq hq hp hqp, hb] at ht; cases ht
    · rw [strike_other hqp] at hl
      exact ⟨q, hq, hk, ht, hl⟩
theorem accT.take {M : List (ByteArray × Bool)} {left : Lit → Bool} {acc : List ByteArray} (hM : OnceS M) (h : accT M left acc) {p : ByteArray × Bool} (hp : p ∈ M) (hb : p.2 = true) (hl : left (.string (txt p.1)) = true) : accT M (strikeS left p.1) (acc ++ [p.1]) := by
  have hn : txt p.1 ∉ acc.map txt := fun hm => by
    obtain ⟨q, hq, hk, _, hl2⟩ := (h.iff p.1).1 hm
    rw [hM.eq hq hp hk, hl] at hl2; cases hl2
  refine ⟨?_, fun k => ?_⟩
  · rw [List.map_append, List.map_singleton]
    refine List.nodup_append.2 ⟨h.once, by simp, fun a ha b hb' e => ?_⟩
    simp only [List.mem_singleton] at hb'
    rw [e, hb'] at ha
    exact hn ha
  · rw [List.map_append, List.map_singleton, List.mem_append, List.mem_singleton, h.iff k]
    constructor
    · rintro (⟨q, hq, hk, ht, hl2⟩ | hk)
      · refine ⟨q, hq, hk, ht, ?_⟩
        unfold strikeS; rw [hl2]; rfl
      · exact ⟨p, hp, hk.symm, hb, strike_self _ _⟩
    · rintro ⟨q, hq, hk, ht, hl2⟩
      by_cases hqp : txt q.1 = txt p.1
      · exact .inr (hk.symm.trans hqp)
      · rw [strike_other hqp] at hl2
        exact .inl ⟨q, hq, hk, ht, hl2⟩
theorem accT.all {M : List (ByteArray × Bool)} {left : Lit → Bool} {acc : List ByteArray} (hM : OnceS M) (h : accT M left acc) (h0 : ∀ kl, left kl = false) (k : ByteArray) : txt k ∈ acc.map txt ↔ (findS k M).getD false = true := by
  rw [h.iff k]
  constructor
  · rintro ⟨p, hp, hk, ht, _⟩
    have hf := findS_some hM hp
    have e : p.1 = k := txt_inj hk
    rw [← e, hf]; exact ht
  · intro hf
    cases hs : findS k M with
    | none => rw [hs] at hf; cases hf
    | some b =>
      rw [hs] at hf
      obtain ⟨p, hp, hk, hb⟩ := findS_mem hs
      exact ⟨p, hp, hk, by rw [hb]; exact hf, h0 _⟩
/-- Lists of the same texts, none twice, come in one order. -/
theorem sorted_same {a b : List (List UInt8)} (ha : a.Nodup) (hb : b.Nodup) (h : ∀ x, x ∈ a ↔ x ∈ b) : a.Perm b := (List.perm_ext_iff_of_nodup ha hb).2 h
end Go.Proofs.YtnmpchojhbmbmaaGreatDoor
