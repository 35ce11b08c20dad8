/- A vault in memory, by what it says of each subject; its methods' contracts. · The record of zeros. · Slices of records that the call owns: appended to. · feed: with, nonce, Head, Records (the walks). -/
import Derived.Test.YtnkmckdefiblhaaGreatDoorG14
import Derived.Test.YtnkmckdefiblhaaGreatDoorG18
import Derived.Test.YtnkmckdefiblhaaGreatDoorG10
import Derived.Test.YtnkmckdefiblhaaGreatDoorProg
import Derived.Test.YtnkmckdefiblhaaGreatDoorG2
import Derived.Test.YtnkmckdefiblhaaGreatDoorG6
import Derived.Maps.AppendAt
import Derived.Deep.RegionHeld3
import Derived.IntWalk
namespace Go.Proofs.YtnkmckdefiblhaaGreatDoor
open Go.RowKit

theorem findS_put {α : Type} (M : List (ByteArray × α)) (k s : ByteArray) (x : α) : findS s (putS k x M) = if txt s = txt k then some x else findS s M := by
  by_cases h : txt s = txt k
  · rw [if_pos h]
    unfold findS putS
    simp [h]
  · rw [if_neg h]
    unfold findS putS delS
    rw [List.find?_cons]
    have e1 : decide (txt k = txt s) = false := decide_eq_false (fun e => h e.symm)
    dsimp only
    rw [e1]
    dsimp only
    rw [List.find?_filter]
    congr 2
    funext p
    by_cases hp : txt p.1 = txt s
    · have : ¬ txt p.1 = txt k := fun e => h (hp.symm.trans e)
      simp [hp, h]
    · simp [hp]
theorem findS_del {α : Type} (M : List (ByteArray × α)) (k s : ByteArray) : findS s (delS k M) = if txt s = txt k then none else findS s M := by
  unfold findS delS
  rw [List.find?_filter]
  by_cases h : txt s = txt k
  · rw [if_pos h]
    rw [Option.map_eq_none_iff, List.find?_eq_none]
    intro p _
    rw [h]
    by_cases hp : txt p.1 = txt k <;> simp [hp]
  · rw [if_neg h]
    congr 2
    funext p
    by_cases hp : txt p.1 = txt s
    · have : ¬ txt p.1 = txt k := fun e => h (hp.symm.trans e)
      simp [hp, h]
    · simp [hp]
/-- A vault: V names its blocks. -/
def vaultIn (w : World) (V : Blk) (vb n : Nat) (sec : ByteArray) (many : ByteArray → Nat) (has : ByteArray → Bool) : Prop :=
  ∃ mb tb M T, vaultAt w vb mb tb n sec M T ∧ (V vb ∧ V mb ∧ V tb) ∧ (∀ i, V i → i < w.heap.size) ∧ (∀ s, hadM s M = (many s : Int)) ∧ (∀ s, (findS s T).map Subtype.val = if has s = true then some (keyS sec s (many s)) else none)
theorem vaultIn.lt {w : World} {V : Blk} {vb n : Nat} {sec : ByteArray} {many : ByteArray → Nat} {has : ByteArray → Bool} (h : vaultIn w V vb n sec many has) : ∀ i, V i → i < w.heap.size := by
  obtain ⟨mb, tb, M, T, h1, h2, h3, h4, h5⟩ := h
  exact h3
theorem vaultIn.at {w : World} {V : Blk} {vb n : Nat} {sec : ByteArray} {many : ByteArray → Nat} {has : ByteArray → Bool} (h : vaultIn w V vb n sec many has) : V vb := by
  obtain ⟨mb, tb, M, T, h1, h2, h3, h4, h5⟩ := h
  exact h2.1
theorem vaultIn.same {w w' : World} {V : Blk} {vb n : Nat} {sec : ByteArray} {many : ByteArray → Nat} {has : ByteArray → Bool} (h : vaultIn w V vb n sec many has) (hk : ∀ i, V i → w'.heap[i]? = w.heap[i]?) (hs : w.heap.size ≤ w'.heap.size) : vaultIn w' V vb n sec many has := by
  obtain ⟨mb, tb, M, T, h1, h2, h3, h4, h5⟩ := h
  exact ⟨mb, tb, M, T, h1.same (hk _ h2.1) (hk _ h2.2.1) (hk _ h2.2.2), h2, fun i hi => Nat.lt_of_lt_of_le (h3 i hi) hs, h4, h5⟩
theorem vaultIn.ext {w w' : World} {V : Blk} {vb n : Nat} {sec : ByteArray} {many : ByteArray → Nat} {has : ByteArray → Bool} (h : vaultIn w V vb n sec many has) (hx : ∃ x, w' = Go.Proofs.YtnkmckdefiblhaaGreatDoor.ext w x) : vaultIn w' V vb n sec many has :=
  h.same (fun i hi => (ext_iff.1 hx).block i (h.lt i hi)) (ext_iff.1 hx).size
theorem vaultIn.step {w w' : World} {V F F' : Blk} {vb n : Nat} {sec : ByteArray} {many : ByteArray → Nat} {has : ByteArray → Bool} (h : vaultIn w V vb n sec many has) (g : Go.Proofs.YtnkmckdefiblhaaGreatDoor.step w w' F F') (ha : apart F V) : vaultIn w' V vb n sec many has :=
  h.same (g.kept ha h.lt) g.size
theorem vaultIn.mono {w : World} {V : Blk} {vb n n' : Nat} {sec : ByteArray} {many : ByteArray → Nat} {has : ByteArray → Bool} (h : vaultIn w V vb n sec many has) (hn : n ≤ n') : vaultIn w V vb n' sec many has := by
  obtain ⟨mb, tb, M, T, h1, h2, h3, h4, h5⟩ := h
  exact ⟨mb, tb, M, T, h1.mono hn, h2, h3, h4, h5⟩
/-! ### What the package variables hold -/
structure Glob (w : World) (F : Blk) : Prop where
  rounds : Rounds w
  err : ErrT w
  words : WordsV w
  maxl : MaxL w
  off : ¬ F 0 ∧ ¬ F 1 ∧ ¬ F 6 ∧ ¬ F 4
theorem Glob.start {w : World} (h1 : Rounds w) (h2 : ErrT w) (h3 : WordsV w) (h4 : MaxL w) : Glob w none0 := ⟨h1, h2, h3, h4, fun h => h, fun h => h, fun h => h, fun h => h⟩
theorem Glob.lts {w : World} {F : Blk} (h : Glob w F) : 0 < w.heap.size ∧ 1 < w.heap.size ∧ 6 < w.heap.size ∧ 4 < w.heap.size :=
  ⟨h.rounds.1, block_lt_of_cell h.err, h.words.1, h.maxl.1⟩
theorem Glob.step {w w' : World} {F F' : Blk} (h : Glob w F) (g : Go.Proofs.YtnkmckdefiblhaaGreatDoor.step w w' F F') : Glob w' F' := by
  obtain ⟨l1, l2, l3, l4⟩ := h.lts
  obtain ⟨o1, o2, o3, o4⟩ := h.off
  obtain ⟨b1, z1, n1⟩ := g.keep l1 o1
  obtain ⟨b2, z2, n2⟩ := g.keep l2 o2
  obtain ⟨b3, z3, n3⟩ := g.keep l3 o3
  obtain ⟨b4, z4, n4⟩ := g.keep l4 o4
  refine ⟨⟨z1, fun i hi => ?_⟩, ?_, ⟨z3, fun j hj => ?_⟩, ⟨z4, ?_⟩, n1, n2, n3, n4⟩
  · have := h.rounds.2 i hi; rw [cell_in] at this ⊢; rw [b1]; exact this
  · have := h.err; unfold ErrT at this ⊢; rw [cell_in] at this ⊢; rw [b2]; exact this
  · have := h.words.2 j hj; rw [cell_in] at this ⊢; rw [b3]; exact this
  · obtain ⟨m, hm⟩ := h.maxl.2
    exact ⟨m, by rw [cell_in] at hm ⊢; rw [b4]; exact hm⟩
theorem Glob.ext {w w' : World} {F : Blk} (h : Glob w F) (hx : ∃ x, w' = Go.Proofs.YtnkmckdefiblhaaGreatDoor.ext w x) : Glob w' F := h.step (.of_ext F hx)
theorem Glob.sub {w : World} {F G : Blk} (h : Glob w F) (hs : ∀ i, G i → F i) : Glob w G :=
  ⟨h.rounds, h.err, h.words, h.maxl, fun e => h.off.1 (hs _ e), fun e => h.off.2.1 (hs _ e), fun e => h.off.2.2.1 (hs _ e), fun e => h.off.2.2.2 (hs _ e)⟩
/-! ### The methods -/
theorem vnew_in (sec : ByteArray) (w : World) (h : sec.size = 16) : Calls Tryz.prog 23 #[.string sec] w fun r w' => ∃ vb V, r = .returned (.tuple #[.pointer (some ⟨vb, 0, none⟩), .nilIface]) ∧ vaultIn w' V vb 0 sec (fun _ => 0) (fun _ => false) ∧ step w w' none0 V := by
  refine (vnew_any sec w h).mono ?_
  rintro r w' ⟨vb, mb, tb, hr, hv, hl, hx⟩
  have hlt : vb < w'.heap.size ∧ mb < w'.heap.size ∧ tb < w'.heap.size := ⟨lt_of_heap hv.blk, hv.many.lt, hv.there.lt⟩
  refine ⟨vb, fun i => i = vb ∨ i = mb ∨ i = tb, hr, ⟨mb, tb, [], [], hv, ⟨.inl rfl, .inr (.inl rfl), .inr (.inr rfl)⟩, ?_, fun _ => rfl, fun _ => rfl⟩, (step.of_ext none0 hx).more ?_⟩
  · rintro i (rfl | rfl | rfl)
    · exact hlt.1
    · exact hlt.2.1
    · exact hlt.2.2
  · rintro i (rfl | rfl | rfl)
    · exact .inr ⟨hl.1, hlt.1⟩
    · exact .inr ⟨hl.2.1, hlt.2.1⟩
    · exact .inr ⟨hl.2.2, hlt.2.2⟩
theorem step.of_keptBut {w w' : World} {V : Blk} {a b : Nat} (h : keptBut w w' a b) (ha : V a) (hb : V b) : step w w' V V :=
  ⟨h.os, h.tape, h.output, h.size, fun i hi hn => h.block i hi (fun e => hn (e ▸ ha)) (fun e => hn (e ▸ hb)), fun _ h => .inl h⟩
theorem vmake_in (s : ByteArray) (w : World) (V : Blk) (vb n : Nat) (sec : ByteArray) (many : ByteArray → Nat) (has : ByteArray → Bool) (h : vaultIn w V vb n sec many has) (hG : Glob w V)
    (hs : nameB (txt s) = true) (hsec : sec.size ≤ 1048576) (hn : n ≤ 1000000) (hm : many s < 1000000) :
    Calls Tryz.prog 151 #[.pointer (some ⟨vb, 0, none⟩), .string s] w fun r w' =>
      r = .returned (.tuple #[.int .i64 (makeN many has s : Nat), .string (keyS sec s (makeN many has s)), .nilIface]) ∧ vaultIn w' V vb (n + 2) sec (updS many s (makeN many has s)) (updS has s true) ∧ step w w' V V := by
  obtain ⟨mb, tb, M, T, h1, h2, h3, h4, h5⟩ := h
  have hr1 : 0 ≠ mb := fun e => hG.off.1 (e ▸ h2.2.1)
  have hsz := (nameB_size (s := s) hs).2
  refine (vmake_any s w vb mb tb n sec M T h1 (by omega) hsec hn (by rw [h4 s]; omega) hG.rounds hr1).mono ?_
  rintro r w' ⟨hr, hv, hk⟩
  have hst := step.of_keptBut hk h2.2.1 h2.2.2
  have hf := h5 s
  refine ⟨hr.trans ?_, ⟨mb, tb, _, _, hv, h2, fun i hi => Nat.lt_of_lt_of_le (h3 i hi) hk.size, ?_, ?_⟩, hst⟩
  · unfold makeV makeN
    rw [if_pos (show nameB s.data.toList = true from hs), h4 s]
    cases hh : has s with
    | true =>
      rw [hh, if_pos rfl] at hf
      obtain ⟨k, hk1, hk2⟩ := Option.map_eq_some_iff.1 hf
      rw [hk1, if_pos rfl, ← hk2]
    | false =>
      rw [hh, if_neg (by simp)] at hf
      rw [Option.map_eq_none_iff.1 hf, if_neg (by simp)]
      rfl
  · intro t
    unfold makeM makeN
    cases hh : has s with
    | true =>
      rw [hh, if_pos rfl] at hf
      obtain ⟨k, hk1, hk2⟩ := Option.map_eq_some_iff.1 hf
      rw [if_neg (by rw [hk1]; simp), if_pos rfl, h4 t]
      by_cases ht : t = s
      · rw [ht, updS_same]
      · rw [updS_other many _ ht]
    | false =>
      rw [hh, if_neg (by simp)] at hf
      rw [if_pos ⟨hs, Option.map_eq_none_iff.1 hf⟩, if_neg (by simp)]
      unfold hadM
      rw [findS_put]
      by_cases ht : t = s
      · subst ht
        rw [if_pos rfl, updS_same]
        show (mkI (hadM t M + 1)).1 = _
        rw [mkI_val (by rw [h4]; omega), h4]; omega
      · rw [if_neg (fun e => ht (txt_inj e)), updS_other many _ ht]
        exact h4 t
  · intro t
    unfold makeT
    cases hh : has s with
    | true =>
      have hmn : makeN many has s = many s := by unfold makeN; rw [hh]; rfl
      rw [hh, if_pos rfl] at hf
      obtain ⟨k, hk1, hk2⟩ := Option.map_eq_some_iff.1 hf
      rw [if_neg (by rw [hk1]; simp), hmn, h5 t]
      by_cases ht : t = s
      · subst ht
        rw [updS_same, updS_same, hh]
      · rw [updS_other many _ ht, updS_other has _ ht]
    | false =>
      have hmn : makeN many has s = many s + 1 := by unfold makeN; rw [hh]; rfl
      rw [hh, if_neg (by simp)] at hf
      rw [if_pos ⟨hs, Option.map_eq_none_iff.1 hf⟩, hmn, findS_put]
      by_cases ht : t = s
      · subst ht
        rw [if_pos rfl, updS_same, updS_same, if_pos rfl, h4]
        rfl
      · rw [if_neg (fun e => ht (txt_inj e)), updS_other many _ ht, updS_other has _ ht]
        exact h5 t
theorem vforget_in (s : ByteArray) (w : World) (V : Blk) (vb n : Nat) (sec : ByteArray) (many : ByteArray → Nat) (has : ByteArray → Bool) (h : vaultIn w V vb n sec many has) (hs : s.size ≤ 1048576) :
    Calls Tryz.prog 150 #[.pointer (some ⟨vb, 0, none⟩), .string s] w fun r w' =>
      r = .returned (if has s = true then .nilIface else errV 8) ∧ vaultIn w' V vb n sec many (updS has s false) ∧ step w w' V V := by
  obtain ⟨mb, tb, M, T, h1, h2, h3, h4, h5⟩ := h
  refine (vforget_any s w vb mb tb n sec M T h1 (by unfold maxLen; omega)).mono ?_
  rintro r w' ⟨hr, hv, hg⟩
  have hf := h5 s
  have e : (findS s T).isSome = has s := by
    cases hh : has s with
    | true => rw [hh, if_pos rfl] at hf; obtain ⟨k, hk1, _⟩ := Option.map_eq_some_iff.1 hf; rw [hk1]; rfl
    | false => rw [hh, if_neg (by simp)] at hf; rw [Option.map_eq_none_iff.1 hf]; rfl
  rw [e] at hr hv
  refine ⟨hr, ⟨mb, tb, _, _, hv, h2, fun i hi => Nat.lt_of_lt_of_le (h3 i hi) hg.size, h4, ?_⟩, .of_grown hg (fun j hj => by cases hj; exact h2.2.2)⟩
  intro t
  cases hh : has s with
  | true =>
    rw [if_pos rfl, findS_del]
    by_cases ht : t = s
    · subst ht
      rw [if_pos rfl, updS_same, if_neg (by simp)]; rfl
    · rw [if_neg (fun e => ht (txt_inj e)), updS_other has _ ht]; exact h5 t
  | false =>
    rw [if_neg (by simp)]
    by_cases ht : t = s
    · subst ht
      rw [updS_same, h5 t, hh]
    · rw [updS_other has _ ht]; exact h5 t
/-- The key of a record: the subject's key, or none. -/
theorem vkey_in (s : ByteArray) (g : Int) (w : World) (V : Blk) (vb n : Nat) (sec : ByteArray) (many : ByteArray → Nat) (has : ByteArray → Bool) (h : vaultIn w V vb n sec many has) (hs : s.size ≤ 1048576) (h1 : 1 ≤ g) (h2 : g ≤ (many s : Nat)) :
    Calls Tryz.prog 127 #[.pointer (some ⟨vb, 0, none⟩), .string s, .int .i64 g] w fun r w' =>
      r = .returned (if (decide (g < (many s : Nat)) || !has s) = true then .tuple #[.string ⟨#[]⟩, errV 8] else .tuple #[.string (keyS sec s g.toNat), .nilIface]) ∧ w = w' := by
  obtain ⟨mb, tb, M, T, h1', h2', h3, h4, h5⟩ := h
  refine (vkey_any s g w vb mb tb n sec M T h1' (by unfold maxLen; omega)).mono ?_
  rintro r w' ⟨hr, hw⟩
  refine ⟨hr.trans ?_, hw⟩
  have hm : ((findS s M).getD ⟨0, by decide⟩).1 = (many s : Int) := h4 s
  rw [hm]
  unfold keyV
  rw [if_neg (by simp; omega)]
  have hf := h5 s
  cases hh : has s with
  | true =>
    rw [hh, if_pos rfl] at hf
    obtain ⟨k, hk1, hk2⟩ := Option.map_eq_some_iff.1 hf
    rw [hk1]
    by_cases hlt : g < (many s : Nat)
    · rw [if_pos (by simp [hlt]), if_pos (by simp [hlt])]
    · rw [if_neg (by simp [hlt]), if_neg (by simp [hlt])]
      rw [Option.getD_some, hk2, show g.toNat = many s by omega]
  | false =>
    rw [hh, if_neg (by simp)] at hf
    rw [Option.map_eq_none_iff.1 hf, if_pos (by simp), if_pos (by simp)]
end Go.Proofs.YtnkmckdefiblhaaGreatDoor
namespace Go.Proofs.YtnkmckdefiblhaaGreatDoor
def zeroR : Rec := ⟨0, ⟨#[]⟩, 0, ⟨#[]⟩, ⟨#[]⟩⟩
end Go.Proofs.YtnkmckdefiblhaaGreatDoor
namespace Go.Proofs.YtnkmckdefiblhaaGreatDoor
open Go.RowKit Go.Shelf

/-- A record's cells. -/
def recVs (e : Rec) : List Value := [.int .i64 e.seq, .string e.subject, .int .i64 e.gen, .string e.prev, .string e.body]
/-- A slice of records. -/
def recsAt (w : World) (p : Option Addr) (l : List Rec) : Prop :=
  l = [] ∨ ∃ g o, p = some ⟨g, o, none⟩ ∧ g < w.heap.size ∧ ∀ j e, l[j]? = some e → ∀ i v, (recVs e)[i]? = some v → w.cell? ⟨g, o + j * 5 + i, none⟩ = some v
theorem recsAt_of {w w' : World} {p : Option Addr} {l : List Rec} (h : recsAt w p l) (hh : ∀ k, k < w.heap.size → w'.heap[k]? = w.heap[k]?) (hs : w.heap.size ≤ w'.heap.size) : recsAt w' p l := by
  rcases h with h | ⟨g, o, rfl, hg, hc⟩
  · exact .inl h
  · exact .inr ⟨g, o, rfl, Nat.lt_of_lt_of_le hg hs, fun j e hj i v hi => by have := hc j e hj i v hi; rw [cell_in] at this ⊢; rw [hh g hg]; exact this⟩
/-- Records' cells, one behind the other. -/
def flatRec (l : List Rec) : List Value := l.flatMap recVs
theorem flatRec_length : ∀ l : List Rec, (flatRec l).length = l.length * 5
  | [] => rfl
  | c :: l => by
    have h : flatRec (c :: l) = recVs c ++ flatRec l := rfl
    rw [h, List.length_append, flatRec_length l]
    simp [recVs]; omega
theorem flatRec_append (l m : List Rec) : flatRec (l ++ m) = flatRec l ++ flatRec m := List.flatMap_append
theorem flatRec_get : ∀ (l : List Rec) (j : Nat) (e : Rec), l[j]? = some e → ∀ i v, (recVs e)[i]? = some v → (flatRec l)[j * 5 + i]? = some v
  | [], j, e, h, _, _, _ => by simp at h
  | c :: l, 0, e, h, i, v, hv => by
    simp only [List.getElem?_cons_zero, Option.some.injEq] at h
    subst h
    have hi : i < 5 := (List.getElem?_eq_some_iff.1 hv).1
    show (recVs c ++ flatRec l)[0 * 5 + i]? = some v
    rw [List.getElem?_append_left (by simp [recVs]; omega), Nat.zero_mul, Nat.zero_add]
    exact hv
  | c :: l, j + 1, e, h, i, v, hv => by
    simp only [List.getElem?_cons_succ] at h
    show (recVs c ++ flatRec l)[(j + 1) * 5 + i]? = some v
    rw [List.getElem?_append_right (by simp [recVs]; omega)]
    have hl : (recVs c).length = 5 := rfl
    rw [hl, show (j + 1) * 5 + i - 5 = j * 5 + i by omega]
    exact flatRec_get l j e h i v hv
/-- A slice of events of the call's own. -/
def ownsRl (w : World) (base : Nat) (v : Value) (l : List Rec) : Prop := w.ownsRow base 108 5 v l.length (flatRec l)
theorem ownsRl_nil (w : World) (base : Nat) : ownsRl w base (.slice none 0 0) [] := ⟨rfl, .inl ⟨rfl, rfl⟩⟩
theorem infoRec : (Tryz.prog.info? 108).map (fun i => (i.zero, i.size, i.bytes)) = some (some (.agg (recV zeroR)), 5, 64) := by kernel_rfl
theorem ownsRl.kept {w w' : World} {base : Nat} {v : Value} {l : List Rec} {row : Option Nat} (h : ownsRl w base v l) (hg : w.grownBy w' row) (hne : ∀ g, v.ownBlock = some g → some g ≠ row) : ownsRl w' base v l := by
  obtain ⟨h1, ⟨rfl, h2⟩ | ⟨g, cap, cur, rfl, hb, hh, h3⟩⟩ := h
  · exact ⟨h1, .inl ⟨rfl, h2⟩⟩
  · exact ⟨h1, .inr ⟨g, cap, cur, rfl, hb, (hg.block g (lt_of_heap hh) (hne g rfl)).trans hh, h3⟩⟩
theorem ownsRl.base {w : World} {base : Nat} {v : Value} {l : List Rec} (h : ownsRl w base v l) {g : Nat} (hg : v.ownBlock = some g) : base ≤ g ∧ g < w.heap.size := by
  obtain ⟨h1, ⟨rfl, h2⟩ | ⟨g', cap, cur, rfl, hb, hh, h3⟩⟩ := h
  · simp [Value.ownBlock] at hg
  · simp only [Value.ownBlock, Option.some.injEq] at hg
    subst hg
    exact ⟨hb, lt_of_heap hh⟩
theorem ownsRl_shape {w : World} {base : Nat} {v : Value} {l : List Rec} (h : ownsRl w base v l) : ∃ q cap, v = .slice q l.length cap := by
  obtain ⟨_, ⟨h1, h2⟩ | ⟨g, cap, cur, h1, _⟩⟩ := h
  · exact ⟨none, 0, by rw [h1, h2]⟩
  · exact ⟨some ⟨g, 0, none⟩, cap, h1⟩
theorem recsAt_owned {w : World} {base : Nat} {q : Option Addr} {n cap : Nat} {l : List Rec} (h : ownsRl w base (.slice q n cap) l) : recsAt w q l := by
  obtain ⟨_, ⟨h1, h2⟩ | ⟨g, cap', cur, h1, _, hh, _, _, _, hx⟩⟩ := h
  · exact .inl (List.length_eq_zero_iff.1 h2)
  · cases h1
    refine .inr ⟨g, 0, rfl, lt_of_heap hh, fun j e hj i v hi => ?_⟩
    have hjl := (List.getElem?_eq_some_iff.1 hj).1
    have hi5 : i < 5 := (List.getElem?_eq_some_iff.1 hi).1
    have h1 : (cur.toList.take (l.length * 5))[j * 5 + i]? = (flatRec l)[j * 5 + i]? := by rw [hx]
    rw [List.getElem?_take_of_lt (by omega), flatRec_get l j e hj i v hi, Array.getElem?_toList] at h1
    rw [cell_in, hh]
    simp [cellIn, h1]
section
variable {ops : Array Oper} {rest : List Oper} {o : Oper} {a : Act} {w : World} {Q : Exit → Act → World → Prop}
end
end Go.Proofs.YtnkmckdefiblhaaGreatDoor
namespace Go.Proofs.YtnkmckdefiblhaaGreatDoor
open Go.RowKit Go.Shelf

theorem texts4 (w : World) (a b c d : ByteArray) (t : TypeId) : textsAt (w.alloc (.cells #[.string a, .string b, .string c, .string d] t)) (some ⟨w.heap.size, 0, none⟩) [a, b, c, d] := by
  intro j u hj
  refine ⟨w.heap.size, 0, rfl, by simp, ?_⟩
  rw [Nat.zero_add, World.cell?_alloc_new]
  match j, hj with
  | 0, hj => cases hj; rfl
  | 1, hj => cases hj; rfl
  | 2, hj => cases hj; rfl
  | 3, hj => cases hj; rfl
  | (j + 4), hj => simp at hj
set_option maxRecDepth 100000 in
set_option maxHeartbeats 1000000 in
theorem with_any (r : Rec) (w : World) (hs : r.subject.size + r.prev.size ≤ 140737488350000) (hR : Rounds w) :
    Calls Tryz.prog 130 #[.agg (recV r)] w fun e w' => e = .returned (.string (withR r)) ∧ ∃ x, w' = ext w x := by
  have R := Lib.hid hR
  clear hR
  have HM : Hid (withR r = ⟨(markB 97 [seqS r.seq, r.subject, seqS r.gen, r.prev]).toArray⟩) := Lib.hid rfl
  have hlen : (markMsg 97 [seqS r.seq, r.subject, seqS r.gen, r.prev]).length ≤ 140737488355000 := by
    rw [msg4]
    have h8 : ∀ n, (seqS n).size = 8 := fun n => by show (numB n).toArray.size = 8; rw [List.size_toArray]; exact numTo_length _ _
    rw [h8, h8]; omega
  generalize withR r = M at HM
  obtain ⟨q, s, g, p, b⟩ := r
  unfold recV
  dsimp only at HM hlen ⊢
  go_enter Tryz.func130, Tryz.ntmps130
  go_wp2_with fail
  have H1 := Lib.hid (heap_alloc_at w (.cells #[.int .i64 q, .string s, .int .i64 g, .string p, .string b] 108))
  have X1 := Lib.hid (ext_alloc (.cells #[.int .i64 q, .string s, .int .i64 g, .string p, .string b] 108) (ext_refl w))
  generalize w.alloc (.cells #[.int .i64 q, .string s, .int .i64 g, .string p, .string b] 108) = w1 at H1 X1 ⊢
  obtain ⟨c0, c1, c2, c3, c4⟩ := rec_cells (r := ⟨q, s, g, p, b⟩) H1.out
  dsimp only at c0 c1 c2 c3 c4
  have lw := lt_of_heap H1.out
  refine wp_region_tail 10 (by kernel_rfl) (by kernel_rfl) ?_
  simp only [List.take_succ_cons, List.take_zero, List.drop_succ_cons, List.drop_zero]
  repeat (go_big_quiet_step ((go_at_call 25; refine (num_any _ _).mono ?_; rintro _ _ ⟨rfl, hx⟩; exact ⟨rfl, ext_trans ⟨_, rfl⟩ hx⟩)))
  refine wpQuiet_nil ?_
  rintro _ ⟨x, rfl⟩
  have X2 := Lib.hid (ext_trans X1.out ⟨x, rfl⟩)
  generalize ext w1 x = w2 at X2 ⊢
  clear H1 X1 c0 c1 c2 c3 c4 lw
  have hT := texts4 w2 (seqS q) s (seqS g) p 9
  have X3 := Lib.hid (ext_alloc (.cells #[.string (seqS q), .string s, .string (seqS g), .string p] 9) X2.out)
  have R3 := Rounds_ext R.out X3.out
  unfold seqS at hT X3 R3 hlen HM
  go_wp2_with fail
  refine (mark_any 97 97 rfl _ _ 4 rfl 4 _ hT hlen R3).mono ?_
  rintro _ w4 ⟨rfl, hx⟩
  have X4 := Lib.hid (ext_trans X3.out hx)
  clear hx hT X3 R3 X2
  rw [← HM.out]
  go_wp2_with fail
  go_ret
  exact ⟨rfl, X4.out⟩
theorem mkS_append (l m : List UInt8) : (⟨l.toArray⟩ : ByteArray) ++ (⟨m.toArray⟩ : ByteArray) = mkS (l ++ m) := by
  apply bs_inj
  rw [bs_mkS]
  show (⟨l.toArray⟩ ++ ⟨m.toArray⟩ : ByteArray).data.toList = _
  simp
set_option maxRecDepth 100000 in
set_option maxHeartbeats 1000000 in
theorem nonce_any (r : Rec) (w : World) : Calls Tryz.prog 129 #[.agg (recV r)] w fun e w' => e = .returned (.string (nonceR r)) ∧ ∃ x, w' = ext w x := by
  have HM : Hid ((⟨(numB r.seq).toArray⟩ : ByteArray) ++ ⟨#[102, 101, 101, 100]⟩ = nonceR r) := Lib.hid (mkS_append (numB r.seq) [102, 101, 101, 100])
  generalize nonceR r = M at HM
  obtain ⟨q, s, g, p, b⟩ := r
  unfold recV
  dsimp only at HM ⊢
  go_enter Tryz.func129, Tryz.ntmps129
  go_wp2_with fail
  refine (num_any _ _).mono ?_
  rintro _ w2 ⟨rfl, hx⟩
  have X2 := Lib.hid (ext_trans (ext_alloc (.cells #[.int .i64 q, .string s, .int .i64 g, .string p, .string b] 108) (ext_refl w)) hx)
  clear hx
  go_wp2_with fail
  go_ret
  exact ⟨by rw [HM.out]; rfl, X2.out⟩
/-! ### A feed in memory -/
/-- Where a slice lies. -/
def inB (F : Blk) (q : Option Addr) : Prop := ∀ a, q = some a → F a.block
theorem recsAt_same {w w' : World} {q : Option Addr} {l : List Rec} (h : recsAt w q l) (hk : ∀ a, q = some a → w'.heap[a.block]? = w.heap[a.block]?) (hs : w.heap.size ≤ w'.heap.size) : recsAt w' q l := by
  rcases h with h | ⟨g, o, hq, hg, hc⟩
  · exact .inl h
  · refine .inr ⟨g, o, hq, Nat.lt_of_lt_of_le hg hs, fun j e hj i v hi => ?_⟩
    have := hc j e hj i v hi
    rw [cell_in] at this ⊢
    rw [hk _ hq]; exact this
/-- What a told record's sizes are. -/
def smallR (r : Rec) : Prop := r.subject.size ≤ 10 ∧ r.prev.size = 16 ∧ r.body.size ≤ 86
structure feedIn (w : World) (F : Blk) (fb vb : Nat) (L : List Rec) : Prop where
  at_ : ∃ q cap, w.heap[fb]? = some (.cells #[.pointer (some ⟨vb, 0, none⟩), .slice q L.length cap] 90 (0, 0)) ∧ L.length ≤ cap ∧ recsAt w q L ∧ inB (fun i => F i ∧ i ≠ fb) q
  fb_ : F fb
  lt : ∀ i, F i → i < w.heap.size
  small : ∀ r ∈ L, smallR r
  len : L.length ≤ 1000
theorem feedIn.same {w w' : World} {F : Blk} {fb vb : Nat} {L : List Rec} (h : feedIn w F fb vb L) (hk : ∀ i, F i → w'.heap[i]? = w.heap[i]?) (hs : w.heap.size ≤ w'.heap.size) : feedIn w' F fb vb L := by
  obtain ⟨q, cap, h1, h2, h3, h4⟩ := h.at_
  exact ⟨⟨q, cap, (hk _ h.fb_).trans h1, h2, recsAt_same h3 (fun a ha => hk _ (h4 a ha).1) hs, h4⟩, h.fb_, fun i hi => Nat.lt_of_lt_of_le (h.lt i hi) hs, h.small, h.len⟩
theorem feedIn.ext {w w' : World} {F : Blk} {fb vb : Nat} {L : List Rec} (h : feedIn w F fb vb L) (hx : ∃ x, w' = Go.Proofs.YtnkmckdefiblhaaGreatDoor.ext w x) : feedIn w' F fb vb L :=
  h.same (fun i hi => (ext_iff.1 hx).block i (h.lt i hi)) (ext_iff.1 hx).size
theorem feedIn.step {w w' : World} {F G G' : Blk} {fb vb : Nat} {L : List Rec} (h : feedIn w F fb vb L) (g : Go.Proofs.YtnkmckdefiblhaaGreatDoor.step w w' G G') (ha : apart G F) : feedIn w' F fb vb L :=
  h.same (g.kept ha h.lt) g.size
theorem two_at {w : World} {b : Nat} {v0 v1 : Value} {t : TypeId} {f : Nat × Nat} (h : w.heap[b]? = some (.cells #[v0, v1] t f)) : w.cell? ⟨b, 0, none⟩ = some v0 ∧ w.cell? ⟨b, 1, none⟩ = some v1 := by
  refine ⟨?_, ?_⟩ <;> (rw [cell_in, h]; rfl)
theorem recsAt_row {w : World} {q : Option Addr} {l : List Rec} {j : Nat} {x : Rec} (h : recsAt w q l) (hj : l[j]? = some x) : ∃ g o, q = some ⟨g, o, none⟩ ∧ w.cell? ⟨g, o + j * 5, none⟩ = some (.int .i64 x.seq) ∧ w.cell? ⟨g, o + j * 5 + 1, none⟩ = some (.string x.subject) ∧ w.cell? ⟨g, o + j * 5 + 2, none⟩ = some (.int .i64 x.gen) ∧ w.cell? ⟨g, o + j * 5 + 3, none⟩ = some (.string x.prev) ∧ w.cell? ⟨g, o + j * 5 + 4, none⟩ = some (.string x.body) ∧ g < w.heap.size := by
  rcases h with rfl | ⟨g, o, hq, hg, hc⟩
  · simp at hj
  · exact ⟨g, o, hq, hc j x hj 0 _ rfl, hc j x hj 1 _ rfl, hc j x hj 2 _ rfl, hc j x hj 3 _ rfl, hc j x hj 4 _ rfl, hg⟩
set_option maxRecDepth 100000 in
set_option maxHeartbeats 1000000 in
theorem fhead_any (w : World) (F : Blk) (fb vb : Nat) (L : List Rec) (h : feedIn w F fb vb L) (hR : Rounds w) :
    Calls Tryz.prog 149 #[.pointer (some ⟨fb, 0, none⟩)] w fun e w' => e = .returned (.string (headR L)) ∧ ∃ x, w' = ext w x := by
  obtain ⟨q, cap, h1, h2, h3, h4⟩ := h.at_
  obtain ⟨c0, c1⟩ := two_at h1
  have lf := lt_of_heap h1
  have hlen := h.len
  have R := Lib.hid hR
  clear hR h4 h1
  cases hl : L.reverse with
  | nil =>
    obtain rfl : L = [] := List.reverse_eq_nil_iff.1 hl
    clear hl h3 h h2
    rw [headR_nil]
    unfold noneS
    go_enter Tryz.func149, Tryz.ntmps149
    go_wp2_with fail
    go_ret
    exact ⟨rfl, ext_refl _⟩
  | cons r l =>
    obtain rfl : L = l.reverse ++ [r] := by rw [← List.reverse_reverse L, hl, List.reverse_cons]
    have hsm := h.small r (by simp)
    have hrow := recsAt_row h3 (j := l.reverse.length) (x := r) (by simp)
    rw [headR_snoc]
    have hn : (l.reverse ++ [r]).length = l.reverse.length + 1 := by simp
    rw [hn] at c1 hlen h2
    generalize l.reverse.length = k at c1 hlen h2 hrow hn
    obtain ⟨g, o, rfl, e0, e1, e2, e3, e4, lg⟩ := hrow
    have MK := fun w2 h => fmark_any r w2 (by unfold smallR at hsm; omega) h
    clear hl h h3 hn hsm
    unfold recV at MK
    have hM : Hid (mkS (mkB r) = ⟨(mkB r).toArray⟩) := Lib.hid rfl
    generalize mkS (mkB r) = M at hM
    generalize (⟨(mkB r).toArray⟩ : ByteArray) = M' at MK hM
    obtain ⟨rq, rs, rg, rp, rb⟩ := r
    dsimp only at MK e0 e1 e2 e3 e4
    have hz : ((k : Int) + 1 == 0) = false := by simp; omega
    have hlt : (k : Int) < (k : Int) + 1 := by omega
    have hw : IntKind.i64.wrap (k : Int) = k := IntWalk.i64_in _ (by omega)
    have hk0 : (0 : Int) ≤ k := by omega
    go_enter Tryz.func149, Tryz.ntmps149
    go_wp2_with fail
    refine wp_region_ext (by kernel_rfl) (by kernel_rfl) ?_
    repeat (go_big_quiet_step ((go_at_call 94; refine (MK _ (Rounds_ext R.out ⟨_, rfl⟩)).mono ?_; rintro _ _ ⟨rfl, hx⟩; exact ⟨rfl, ext_trans ⟨_, rfl⟩ hx⟩)))
    refine wpQuiet_nil ?_
    rintro _ ⟨x, rfl⟩
    have X2 := Lib.hid (ext_trans (ext_refl w) ⟨x, rfl⟩)
    generalize ext w x = w2 at X2 ⊢
    go_wp2_with fail
    go_ret
    exact ⟨by rw [hM.out]; rfl, X2.out⟩
end Go.Proofs.YtnkmckdefiblhaaGreatDoor
