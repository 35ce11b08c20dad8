/- VaultKeeps: two vaults that say the same (plain laws). -/
import Derived.Test.YtnmpchojhbmbmaaGreatDoorProg
import Derived.Test.YtnmpchojhbmbmaaGreatDoorG23
import Derived.Test.YtnmpchojhbmbmaaGreatDoorG26
import Derived.Test.YtnmpchojhbmbmaaGreatDoorG18
namespace Go.Proofs.YtnmpchojhbmbmaaGreatDoor
open Go.RowKit

theorem findS_put_same {α : Type} (k : ByteArray) (x : α) (M : List (ByteArray × α)) : findS k (putS k x M) = some x := by unfold findS putS; simp
theorem find_filter_ne {α : Type} (s k : ByteArray) (h : txt k ≠ txt s) (M : List (ByteArray × α)) : findS k (delS s M) = findS k M := by
  unfold findS delS
  induction M with
  | nil => rfl
  | cons p M ih =>
    by_cases h1 : txt p.1 = txt s
    · rw [List.filter_cons_of_neg (by simp [h1]), ih, List.find?_cons_of_neg (by simp [h1]; exact fun e => h e.symm)]
    · rw [List.filter_cons_of_pos (by simp [h1])]
      by_cases h2 : txt p.1 = txt k
      · rw [List.find?_cons_of_pos (by simp [h2]), List.find?_cons_of_pos (by simp [h2])]
      · rw [List.find?_cons_of_neg (by simp [h2]), List.find?_cons_of_neg (by simp [h2]), ih]
theorem findS_del_same {α : Type} (s : ByteArray) (M : List (ByteArray × α)) : findS s (delS s M) = none := by
  unfold findS delS
  rw [List.find?_eq_none.2]; · rfl
  intro p hp
  have := (List.mem_filter.1 hp).2
  simpa using this
theorem findS_put_other {α : Type} (s k : ByteArray) (h : txt k ≠ txt s) (x : α) (M : List (ByteArray × α)) : findS k (putS s x M) = findS k M := by
  rw [show putS s x M = (s, x) :: delS s M from rfl]
  have h1 : findS k ((s, x) :: delS s M) = findS k (delS s M) := by
    unfold findS
    rw [List.find?_cons_of_neg (by simp; exact fun e => h e.symm)]
  rw [h1, find_filter_ne s k h]
theorem findS_key {α : Type} {k s : ByteArray} (h : txt k = txt s) (M : List (ByteArray × α)) : findS k M = findS s M := by rw [txt_inj h]
/-- The two vaults: the numbers are the same lists; a key is there where the document has one. -/
structure relV (sec : ByteArray) (n : Int) (M : List (ByteArray × I64)) (T : List (ByteArray × Txt)) (B : List (ByteArray × Bool)) : Prop where
  there : ∀ k, findS k T = if (findS k B).getD false = true then some (keyT sec k (hadM k M)) else none
  few : ∀ k, 0 ≤ hadM k M ∧ hadM k M ≤ n
theorem relV.nil (sec : ByteArray) : relV sec 0 [] [] [] := ⟨fun _ => rfl, fun _ => (show (0 : Int) ≤ 0 ∧ (0 : Int) ≤ 0 from ⟨Int.le_refl _, Int.le_refl _⟩)⟩
theorem relV.mono {sec : ByteArray} {n n' : Int} {M : List (ByteArray × I64)} {T : List (ByteArray × Txt)} {B : List (ByteArray × Bool)} (h : relV sec n M T B) (hn : n ≤ n') : relV sec n' M T B := ⟨h.there, fun k => ⟨(h.few k).1, Int.le_trans (h.few k).2 hn⟩⟩
theorem relV.some_iff {sec : ByteArray} {n : Int} {M : List (ByteArray × I64)} {T : List (ByteArray × Txt)} {B : List (ByteArray × Bool)} (h : relV sec n M T B) (s : ByteArray) : (findS s T).isSome = (findS s B).getD false := by
  rw [h.there s]; cases (findS s B).getD false <;> rfl
theorem relV.makeH {sec : ByteArray} {n : Int} {M : List (ByteArray × I64)} {T : List (ByteArray × Txt)} {B : List (ByteArray × Bool)} (h : relV sec n M T B) (s : ByteArray) : rmakeH s M ((findS s B).getD false) = makeM s M (findS s T) := by
  unfold rmakeH makeM
  rw [h.there s]
  cases (findS s B).getD false <;> simp
theorem relV.make {sec : ByteArray} {n : Int} {M : List (ByteArray × I64)} {T : List (ByteArray × Txt)} {B : List (ByteArray × Bool)} (h : relV sec n M T B) (s : ByteArray) (hn : n < 1000000) :
    relV sec (n + 1) (makeM s M (findS s T)) (makeT sec s M T) (rmakeB s B ((findS s B).getD false)) := by
  by_cases hc : nameB s.data.toList = true ∧ (findS s B).getD false = false
  · have hT : findS s T = none := by rw [h.there s, if_neg (by rw [hc.2]; decide)]
    have e1 : makeM s M (findS s T) = putS s (mkI (hadM s M + 1)) M := if_pos ⟨hc.1, hT⟩
    have e2 : makeT sec s M T = putS s (keyT sec s (hadM s M + 1)) T := if_pos ⟨hc.1, hT⟩
    have e3 : rmakeB s B ((findS s B).getD false) = putS s true B := if_pos hc
    have hf := h.few s
    have hv : (mkI (hadM s M + 1)).1 = hadM s M + 1 := mkI_val ⟨by omega, by omega⟩
    rw [e1, e2, e3]
    have hs : ∀ k, txt k = txt s → hadM k (putS s (mkI (hadM s M + 1)) M) = hadM s M + 1 := fun k hk => by
      unfold hadM; rw [findS_key hk, findS_put_same]; exact hv
    have ho : ∀ k, txt k ≠ txt s → hadM k (putS s (mkI (hadM s M + 1)) M) = hadM k M := fun k hk => by
      unfold hadM; rw [findS_put_other s k hk]
    refine ⟨fun k => ?_, fun k => ?_⟩
    · by_cases hk : txt k = txt s
      · rw [hs k hk, txt_inj hk, findS_put_same, findS_put_same]; rfl
      · rw [ho k hk, findS_put_other s k hk, findS_put_other s k hk]; exact h.there k
    · by_cases hk : txt k = txt s
      · rw [hs k hk]; omega
      · rw [ho k hk]; have := h.few k; omega
  · have e3 : rmakeB s B ((findS s B).getD false) = B := if_neg hc
    have hc' : ¬ (nameB s.data.toList = true ∧ findS s T = none) := fun hh => hc ⟨hh.1, by
      have := h.some_iff s; rw [hh.2] at this; exact this.symm⟩
    have e1 : makeM s M (findS s T) = M := if_neg hc'
    have e2 : makeT sec s M T = T := if_neg hc'
    rw [e1, e2, e3]
    exact h.mono (by omega)
theorem relV.forget {sec : ByteArray} {n : Int} {M : List (ByteArray × I64)} {T : List (ByteArray × Txt)} {B : List (ByteArray × Bool)} (h : relV sec n M T B) (s : ByteArray) :
    relV sec n M (if (findS s T).isSome = true then delS s T else T) (if (findS s B).getD false = true then putS s false B else B) := by
  rw [h.some_iff s]
  by_cases hf : (findS s B).getD false = true
  · rw [if_pos hf, if_pos hf]
    refine ⟨fun k => ?_, h.few⟩
    by_cases hk : txt k = txt s
    · rw [findS_key hk, findS_key hk, findS_del_same, findS_put_same]; rfl
    · rw [find_filter_ne s k hk, findS_put_other s k hk]; exact h.there k
  · rw [if_neg hf, if_neg hf]; exact h
/-- What Make says is the same. -/
theorem relV.make_says {sec : ByteArray} {n : Int} {M : List (ByteArray × I64)} {T : List (ByteArray × Txt)} {B : List (ByteArray × Bool)} (h : relV sec n M T B) (s : ByteArray) :
    ∃ (m : Int) (k : ByteArray) (c : Int), makeV sec s (hadM s M) (findS s T) = .tuple #[.int .i64 m, .string k, errOf c] ∧ rmakeV sec s (hadM s M) ((findS s B).getD false) = .tuple #[.int .i64 m, .string k, .int .i64 c] := by
  unfold makeV rmakeV
  rw [h.there s]
  cases nameB s.data.toList with
  | false => exact ⟨0, _, 5, rfl, rfl⟩
  | true =>
    cases (findS s B).getD false with
    | true => exact ⟨_, _, 0, rfl, rfl⟩
    | false => exact ⟨_, _, 0, rfl, rfl⟩
theorem relV.forget_says {sec : ByteArray} {n : Int} {M : List (ByteArray × I64)} {T : List (ByteArray × Txt)} {B : List (ByteArray × Bool)} (h : relV sec n M T B) (s : ByteArray) :
    (if (findS s T).isSome = true then Value.nilIface else errV 8) = errOf (if (findS s B).getD false = true then 0 else 8) := by
  rw [h.some_iff s]
  cases (findS s B).getD false <;> rfl
theorem relV.key_says {sec : ByteArray} {n : Int} {M : List (ByteArray × I64)} {T : List (ByteArray × Txt)} {B : List (ByteArray × Bool)} (h : relV sec n M T B) (s : ByteArray) (g : Int) :
    ∃ (k : ByteArray) (c : Int), keyV (findS s T) (hadM s M) g = .tuple #[.string k, errOf c] ∧ rkeyV sec s ((findS s B).getD false) (hadM s M) g = .tuple #[.string k, .int .i64 c] := by
  rw [h.there s]
  generalize hadM s M = m
  unfold keyV rkeyV
  by_cases h1 : g < 1 ∨ m < g
  · refine ⟨⟨#[]⟩, 7, ?_, ?_⟩
    · rw [if_pos (by simpa using h1)]; rfl
    · rw [if_neg (by simp; omega)]
  · by_cases h2 : g = m
    · subst h2
      cases (findS s B).getD false with
      | true =>
        refine ⟨⟨(keyB sec s g).toArray⟩, 0, ?_, ?_⟩
        · rw [if_neg (by simp; omega), if_neg (by simp)]; rfl
        · rw [if_pos (by simp; omega), if_neg (by simp)]
      | false =>
        refine ⟨⟨#[]⟩, 8, ?_, ?_⟩
        · rw [if_neg (by simp; omega), if_pos (by simp)]; rfl
        · rw [if_pos (by simp; omega), if_pos (by simp)]
    · refine ⟨⟨#[]⟩, 8, ?_, ?_⟩
      · rw [if_neg (by simp; omega), if_pos (by simp; left; omega)]; rfl
      · rw [if_pos (by simp; omega), if_pos (by simp [h2])]
/-- Lists of the same texts, none twice, come out in one order. -/
theorem merged (a : List (List UInt8)) : (a.mergeSort fun x y => decide (x ≤ y)).Pairwise fun x y => x ≤ y :=
  (List.pairwise_mergeSort (le := fun x y : List UInt8 => decide (x ≤ y)) (fun a b c h1 h2 => decide_eq_true (List.le_trans (of_decide_eq_true h1) (of_decide_eq_true h2)))
    (fun a b => by simp only [Bool.or_eq_true, decide_eq_true_eq]; exact List.le_total a b) a).imp fun h => of_decide_eq_true h
theorem merge_same {a b : List (List UInt8)} (h : a.Perm b) : (a.mergeSort fun x y => decide (x ≤ y)) = (b.mergeSort fun x y => decide (x ≤ y)) :=
  (((List.mergeSort_perm a _).trans h).trans (List.mergeSort_perm b _).symm).eq_of_pairwise (fun _ _ _ _ h1 h2 => List.le_antisymm h1 h2) (merged a) (merged b)
/-- The subjects of both. -/
theorem relV.subjects {sec : ByteArray} {n : Int} {M : List (ByteArray × I64)} {T : List (ByteArray × Txt)} {B : List (ByteArray × Bool)} (h : relV sec n M T B) (hT : OnceS T) {ss : List (List UInt8)} (h1 : ss.Nodup) (h2 : ∀ k : ByteArray, txt k ∈ ss ↔ (findS k B).getD false = true) :
    (ss.mergeSort fun x y => decide (x ≤ y)) = ((T.map fun p => txt p.1).mergeSort fun x y => decide (x ≤ y)) := by
  refine merge_same ?_
  have hn : (T.map fun p => txt p.1).Nodup := List.pairwise_map.2 hT
  refine (List.perm_ext_iff_of_nodup h1 hn).2 fun x => ?_
  have hx : x = txt ⟨x.toArray⟩ := by simp [txt]
  rw [hx, h2, ← h.some_iff]
  constructor
  · intro hf
    cases hs : findS ⟨x.toArray⟩ T with
    | none => rw [hs] at hf; cases hf
    | some y =>
      obtain ⟨p, hp, hk, _⟩ := findS_mem hs
      exact List.mem_map.2 ⟨p, hp, hk⟩
  · intro hm
    obtain ⟨p, hp, hk⟩ := List.mem_map.1 hm
    rw [← txt_inj hk, findS_some hT hp]; rfl
end Go.Proofs.YtnmpchojhbmbmaaGreatDoor
