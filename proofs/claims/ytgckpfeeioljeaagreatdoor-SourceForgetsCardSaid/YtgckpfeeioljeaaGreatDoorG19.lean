/- A vault in memory, by what it says of each subject; its methods' contracts. -/
import Derived.Test.YtgckpfeeioljeaaGreatDoorG16
import Derived.Test.YtgckpfeeioljeaaGreatDoorG18
namespace Go.Proofs.YtgckpfeeioljeaaGreatDoor
open Go.RowKit

theorem findS_put {α : Type} (M : List (ByteArray × α)) (k s : ByteArray) (x : α) : findS s (putS k x M) = if txt s = txt k then some x else findS s M := by
  by_cases h : txt s = txt k
  · rw [if_pos h]
    unfold findS putS
    simp [h]
  · rw [if_neg h]
    unfold findS putS delS
    rw [List.find?_cons]
    have e1 : decide (txt k = txt s) = false := decide_eq_false (fun e => h e.symm)
    dsimp only
    rw [e1]
    dsimp only
    rw [List.find?_filter]
    congr 2
    funext p
    by_cases hp : txt p.1 = txt s
    · have : ¬ txt p.1 = txt k := fun e => h (hp.symm.trans e)
      simp [hp, h]
    · simp [hp]
theorem findS_del {α : Type} (M : List (ByteArray × α)) (k s : ByteArray) : findS s (delS k M) = if txt s = txt k then none else findS s M := by
  unfold findS delS
  rw [List.find?_filter]
  by_cases h : txt s = txt k
  · rw [if_pos h]
    rw [Option.map_eq_none_iff, List.find?_eq_none]
    intro p _
    rw [h]
    by_cases hp : txt p.1 = txt k <;> simp [hp]
  · rw [if_neg h]
    congr 2
    funext p
    by_cases hp : txt p.1 = txt s
    · have : ¬ txt p.1 = txt k := fun e => h (hp.symm.trans e)
      simp [hp, h]
    · simp [hp]
/-- A vault: V names its blocks. -/
def vaultIn (w : World) (V : Blk) (vb n : Nat) (sec : ByteArray) (many : ByteArray → Nat) (has : ByteArray → Bool) : Prop :=
  ∃ mb tb M T, vaultAt w vb mb tb n sec M T ∧ (V vb ∧ V mb ∧ V tb) ∧ (∀ i, V i → i < w.heap.size) ∧ (∀ s, hadM s M = (many s : Int)) ∧ (∀ s, (findS s T).map Subtype.val = if has s = true then some (keyS sec s (many s)) else none)
theorem vaultIn.lt {w : World} {V : Blk} {vb n : Nat} {sec : ByteArray} {many : ByteArray → Nat} {has : ByteArray → Bool} (h : vaultIn w V vb n sec many has) : ∀ i, V i → i < w.heap.size := by
  obtain ⟨mb, tb, M, T, h1, h2, h3, h4, h5⟩ := h
  exact h3
theorem vaultIn.at {w : World} {V : Blk} {vb n : Nat} {sec : ByteArray} {many : ByteArray → Nat} {has : ByteArray → Bool} (h : vaultIn w V vb n sec many has) : V vb := by
  obtain ⟨mb, tb, M, T, h1, h2, h3, h4, h5⟩ := h
  exact h2.1
theorem vaultIn.same {w w' : World} {V : Blk} {vb n : Nat} {sec : ByteArray} {many : ByteArray → Nat} {has : ByteArray → Bool} (h : vaultIn w V vb n sec many has) (hk : ∀ i, V i → w'.heap[i]? = w.heap[i]?) (hs : w.heap.size ≤ w'.heap.size) : vaultIn w' V vb n sec many has := by
  obtain ⟨mb, tb, M, T, h1, h2, h3, h4, h5⟩ := h
  exact ⟨mb, tb, M, T, h1.same (hk _ h2.1) (hk _ h2.2.1) (hk _ h2.2.2), h2, fun i hi => Nat.lt_of_lt_of_le (h3 i hi) hs, h4, h5⟩
theorem vaultIn.ext {w w' : World} {V : Blk} {vb n : Nat} {sec : ByteArray} {many : ByteArray → Nat} {has : ByteArray → Bool} (h : vaultIn w V vb n sec many has) (hx : ∃ x, w' = Go.Proofs.YtgckpfeeioljeaaGreatDoor.ext w x) : vaultIn w' V vb n sec many has :=
  h.same (fun i hi => (ext_iff.1 hx).block i (h.lt i hi)) (ext_iff.1 hx).size
theorem vaultIn.step {w w' : World} {V F F' : Blk} {vb n : Nat} {sec : ByteArray} {many : ByteArray → Nat} {has : ByteArray → Bool} (h : vaultIn w V vb n sec many has) (g : Go.Proofs.YtgckpfeeioljeaaGreatDoor.step w w' F F') (ha : apart F V) : vaultIn w' V vb n sec many has :=
  h.same (g.kept ha h.lt) g.size
theorem vaultIn.mono {w : World} {V : Blk} {vb n n' : Nat} {sec : ByteArray} {many : ByteArray → Nat} {has : ByteArray → Bool} (h : vaultIn w V vb n sec many has) (hn : n ≤ n') : vaultIn w V vb n' sec many has := by
  obtain ⟨mb, tb, M, T, h1, h2, h3, h4, h5⟩ := h
  exact ⟨mb, tb, M, T, h1.mono hn, h2, h3, h4, h5⟩
/-! ### What the package variables hold -/
structure Glob (w : World) (F : Blk) : Prop where
  rounds : Rounds w
  err : ErrT w
  words : WordsV w
  maxl : MaxL w
  off : ¬ F 2 ∧ ¬ F 1 ∧ ¬ F 0 ∧ ¬ F 3
theorem Glob.start {w : World} (h1 : Rounds w) (h2 : ErrT w) (h3 : WordsV w) (h4 : MaxL w) : Glob w none0 := ⟨h1, h2, h3, h4, fun h => h, fun h => h, fun h => h, fun h => h⟩
theorem Glob.lts {w : World} {F : Blk} (h : Glob w F) : 2 < w.heap.size ∧ 1 < w.heap.size ∧ 0 < w.heap.size ∧ 3 < w.heap.size :=
  ⟨h.rounds.1, block_lt_of_cell h.err, h.words.1, h.maxl.1⟩
theorem Glob.step {w w' : World} {F F' : Blk} (h : Glob w F) (g : Go.Proofs.YtgckpfeeioljeaaGreatDoor.step w w' F F') : Glob w' F' := by
  obtain ⟨l1, l2, l3, l4⟩ := h.lts
  obtain ⟨o1, o2, o3, o4⟩ := h.off
  obtain ⟨b1, z1, n1⟩ := g.keep l1 o1
  obtain ⟨b2, z2, n2⟩ := g.keep l2 o2
  obtain ⟨b3, z3, n3⟩ := g.keep l3 o3
  obtain ⟨b4, z4, n4⟩ := g.keep l4 o4
  refine ⟨⟨z1, fun i hi => ?_⟩, ?_, ⟨z3, fun j hj => ?_⟩, ⟨z4, ?_⟩, n1, n2, n3, n4⟩
  · have := h.rounds.2 i hi; rw [cell_in] at this ⊢; rw [b1]; exact this
  · have := h.err; unfold ErrT at this ⊢; rw [cell_in] at this ⊢; rw [b2]; exact this
  · have := h.words.2 j hj; rw [cell_in] at this ⊢; rw [b3]; exact this
  · obtain ⟨m, hm⟩ := h.maxl.2
    exact ⟨m, by rw [cell_in] at hm ⊢; rw [b4]; exact hm⟩
theorem Glob.ext {w w' : World} {F : Blk} (h : Glob w F) (hx : ∃ x, w' = Go.Proofs.YtgckpfeeioljeaaGreatDoor.ext w x) : Glob w' F := h.step (.of_ext F hx)
theorem Glob.sub {w : World} {F G : Blk} (h : Glob w F) (hs : ∀ i, G i → F i) : Glob w G :=
  ⟨h.rounds, h.err, h.words, h.maxl, fun e => h.off.1 (hs _ e), fun e => h.off.2.1 (hs _ e), fun e => h.off.2.2.1 (hs _ e), fun e => h.off.2.2.2 (hs _ e)⟩
/-! ### The methods -/
theorem vnew_in (sec : ByteArray) (w : World) (h : sec.size = 16) : Calls Tryz.prog 45 #[.string sec] w fun r w' => ∃ vb V, r = .returned (.tuple #[.pointer (some ⟨vb, 0, none⟩), .nilIface]) ∧ vaultIn w' V vb 0 sec (fun _ => 0) (fun _ => false) ∧ step w w' none0 V := by
  refine (vnew_any sec w h).mono ?_
  rintro r w' ⟨vb, mb, tb, hr, hv, hl, hx⟩
  have hlt : vb < w'.heap.size ∧ mb < w'.heap.size ∧ tb < w'.heap.size := ⟨lt_of_heap hv.blk, hv.many.lt, hv.there.lt⟩
  refine ⟨vb, fun i => i = vb ∨ i = mb ∨ i = tb, hr, ⟨mb, tb, [], [], hv, ⟨.inl rfl, .inr (.inl rfl), .inr (.inr rfl)⟩, ?_, fun _ => rfl, fun _ => rfl⟩, (step.of_ext none0 hx).more ?_⟩
  · rintro i (rfl | rfl | rfl)
    · exact hlt.1
    · exact hlt.2.1
    · exact hlt.2.2
  · rintro i (rfl | rfl | rfl)
    · exact .inr ⟨hl.1, hlt.1⟩
    · exact .inr ⟨hl.2.1, hlt.2.1⟩
    · exact .inr ⟨hl.2.2, hlt.2.2⟩
theorem step.of_keptBut {w w' : World} {V : Blk} {a b : Nat} (h : keptBut w w' a b) (ha : V a) (hb : V b) : step w w' V V :=
  ⟨h.os, h.tape, h.output, h.size, fun i hi hn => h.block i hi (fun e => hn (e ▸ ha)) (fun e => hn (e ▸ hb)), fun _ h => .inl h⟩
theorem vmake_in (s : ByteArray) (w : World) (V : Blk) (vb n : Nat) (sec : ByteArray) (many : ByteArray → Nat) (has : ByteArray → Bool) (h : vaultIn w V vb n sec many has) (hG : Glob w V)
    (hs : nameB (txt s) = true) (hsec : sec.size ≤ 1048576) (hn : n ≤ 1000000) (hm : many s < 1000000) :
    Calls Tryz.prog 74 #[.pointer (some ⟨vb, 0, none⟩), .string s] w fun r w' =>
      r = .returned (.tuple #[.int .i64 (makeN many has s : Nat), .string (keyS sec s (makeN many has s)), .nilIface]) ∧ vaultIn w' V vb (n + 2) sec (updS many s (makeN many has s)) (updS has s true) ∧ step w w' V V := by
  obtain ⟨mb, tb, M, T, h1, h2, h3, h4, h5⟩ := h
  have hr1 : 2 ≠ mb := fun e => hG.off.1 (e ▸ h2.2.1)
  have hsz := (nameB_size (s := s) hs).2
  refine (vmake_any s w vb mb tb n sec M T h1 (by omega) hsec hn (by rw [h4 s]; omega) hG.rounds hr1).mono ?_
  rintro r w' ⟨hr, hv, hk⟩
  have hst := step.of_keptBut hk h2.2.1 h2.2.2
  have hf := h5 s
  refine ⟨hr.trans ?_, ⟨mb, tb, _, _, hv, h2, fun i hi => Nat.lt_of_lt_of_le (h3 i hi) hk.size, ?_, ?_⟩, hst⟩
  · unfold makeV makeN
    rw [if_pos (show nameB s.data.toList = true from hs), h4 s]
    cases hh : has s with
    | true =>
      rw [hh, if_pos rfl] at hf
      obtain ⟨k, hk1, hk2⟩ := Option.map_eq_some_iff.1 hf
      rw [hk1, if_pos rfl, ← hk2]
    | false =>
      rw [hh, if_neg (by simp)] at hf
      rw [Option.map_eq_none_iff.1 hf, if_neg (by simp)]
      rfl
  · intro t
    unfold makeM makeN
    cases hh : has s with
    | true =>
      rw [hh, if_pos rfl] at hf
      obtain ⟨k, hk1, hk2⟩ := Option.map_eq_some_iff.1 hf
      rw [if_neg (by rw [hk1]; simp), if_pos rfl, h4 t]
      by_cases ht : t = s
      · rw [ht, updS_same]
      · rw [updS_other many _ ht]
    | false =>
      rw [hh, if_neg (by simp)] at hf
      rw [if_pos ⟨hs, Option.map_eq_none_iff.1 hf⟩, if_neg (by simp)]
      unfold hadM
      rw [findS_put]
      by_cases ht : t = s
      · subst ht
        rw [if_pos rfl, updS_same]
        show (mkI (hadM t M + 1)).1 = _
        rw [mkI_val (by rw [h4]; omega), h4]; omega
      · rw [if_neg (fun e => ht (txt_inj e)), updS_other many _ ht]
        exact h4 t
  · intro t
    unfold makeT
    cases hh : has s with
    | true =>
      have hmn : makeN many has s = many s := by unfold makeN; rw [hh]; rfl
      rw [hh, if_pos rfl] at hf
      obtain ⟨k, hk1, hk2⟩ := Option.map_eq_some_iff.1 hf
      rw [if_neg (by rw [hk1]; simp), hmn, h5 t]
      by_cases ht : t = s
      · subst ht
        rw [updS_same, updS_same, hh]
      · rw [updS_other many _ ht, updS_other has _ ht]
    | false =>
      have hmn : makeN many has s = many s + 1 := by unfold makeN; rw [hh]; rfl
      rw [hh, if_neg (by simp)] at hf
      rw [if_pos ⟨hs, Option.map_eq_none_iff.1 hf⟩, hmn, findS_put]
      by_cases ht : t = s
      · subst ht
        rw [if_pos rfl, updS_same, updS_same, if_pos rfl, h4]
        rfl
      · rw [if_neg (fun e => ht (txt_inj e)), updS_other many _ ht, updS_other has _ ht]
        exact h5 t
theorem vforget_in (s : ByteArray) (w : World) (V : Blk) (vb n : Nat) (sec : ByteArray) (many : ByteArray → Nat) (has : ByteArray → Bool) (h : vaultIn w V vb n sec many has) (hs : s.size ≤ 1048576) :
    Calls Tryz.prog 73 #[.pointer (some ⟨vb, 0, none⟩), .string s] w fun r w' =>
      r = .returned (if has s = true then .nilIface else errV 8) ∧ vaultIn w' V vb n sec many (updS has s false) ∧ step w w' V V := by
  obtain ⟨mb, tb, M, T, h1, h2, h3, h4, h5⟩ := h
  refine (vforget_any s w vb mb tb n sec M T h1 (by unfold maxLen; omega)).mono ?_
  rintro r w' ⟨hr, hv, hg⟩
  have hf := h5 s
  have e : (findS s T).isSome = has s := by
    cases hh : has s with
    | true => rw [hh, if_pos rfl] at hf; obtain ⟨k, hk1, _⟩ := Option.map_eq_some_iff.1 hf; rw [hk1]; rfl
    | false => rw [hh, if_neg (by simp)] at hf; rw [Option.map_eq_none_iff.1 hf]; rfl
  rw [e] at hr hv
  refine ⟨hr, ⟨mb, tb, _, _, hv, h2, fun i hi => Nat.lt_of_lt_of_le (h3 i hi) hg.size, h4, ?_⟩, .of_grown hg (fun j hj => by cases hj; exact h2.2.2)⟩
  intro t
  cases hh : has s with
  | true =>
    rw [if_pos rfl, findS_del]
    by_cases ht : t = s
    · subst ht
      rw [if_pos rfl, updS_same, if_neg (by simp)]; rfl
    · rw [if_neg (fun e => ht (txt_inj e)), updS_other has _ ht]; exact h5 t
  | false =>
    rw [if_neg (by simp)]
    by_cases ht : t = s
    · subst ht
      rw [updS_same, h5 t, hh]
    · rw [updS_other has _ ht]; exact h5 t
/-- The key of a record: the subject's key, or none. -/
theorem vkey_in (s : ByteArray) (g : Int) (w : World) (V : Blk) (vb n : Nat) (sec : ByteArray) (many : ByteArray → Nat) (has : ByteArray → Bool) (h : vaultIn w V vb n sec many has) (hs : s.size ≤ 1048576) (h1 : 1 ≤ g) (h2 : g ≤ (many s : Nat)) :
    Calls Tryz.prog 56 #[.pointer (some ⟨vb, 0, none⟩), .string s, .int .i64 g] w fun r w' =>
      r = .returned (if (decide (g < (many s : Nat)) || !has s) = true then .tuple #[.string ⟨#[]⟩, errV 8] else .tuple #[.string (keyS sec s g.toNat), .nilIface]) ∧ w = w' := by
  obtain ⟨mb, tb, M, T, h1', h2', h3, h4, h5⟩ := h
  refine (vkey_any s g w vb mb tb n sec M T h1' (by unfold maxLen; omega)).mono ?_
  rintro r w' ⟨hr, hw⟩
  refine ⟨hr.trans ?_, hw⟩
  have hm : ((findS s M).getD ⟨0, by decide⟩).1 = (many s : Int) := h4 s
  rw [hm]
  unfold keyV
  rw [if_neg (by simp; omega)]
  have hf := h5 s
  cases hh : has s with
  | true =>
    rw [hh, if_pos rfl] at hf
    obtain ⟨k, hk1, hk2⟩ := Option.map_eq_some_iff.1 hf
    rw [hk1]
    by_cases hlt : g < (many s : Nat)
    · rw [if_pos (by simp [hlt]), if_pos (by simp [hlt])]
    · rw [if_neg (by simp [hlt]), if_neg (by simp [hlt])]
      rw [Option.getD_some, hk2, show g.toNat = many s by omega]
  | false =>
    rw [hh, if_neg (by simp)] at hf
    rw [Option.map_eq_none_iff.1 hf, if_pos (by simp), if_pos (by simp)]
end Go.Proofs.YtgckpfeeioljeaaGreatDoor
