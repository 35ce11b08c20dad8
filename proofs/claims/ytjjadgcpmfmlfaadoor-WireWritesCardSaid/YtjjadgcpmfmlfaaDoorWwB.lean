/- Records, one behind the other; wire.All, the document's All; WireWrites (the walks). -/
import Derived.Test.YtjjadgcpmfmlfaaDoorProg
import Derived.Test.YtjjadgcpmfmlfaaDoorParse
import Derived.Test.YtjjadgcpmfmlfaaDoorOwn
import Derived.Maps.AppendAt
import Derived.RangeFuncNested
import Derived.RangeFuncBound
import Derived.RangeFuncCalls
import Derived.RangeFuncLeaves
import Derived.Shelf.Abstract
import Derived.Shelf.RegionOpen
import Derived.WalkKit
import Derived.OwnWalkIn
import Derived.TacticsInMore
import Derived.LoopNIn
import Derived.LoopIn
import Derived.Sort.QuietLawsIn
import Derived.Test.YtjjadgcpmfmlfaaDoorTell
import Derived.Test.YtjjadgcpmfmlfaaDoorRefNew
import Derived.Test.YtjjadgcpmfmlfaaDoorSb
import Derived.Test.YtjjadgcpmfmlfaaDoorWwA
namespace Go.Proofs.YtjjadgcpmfmlfaaDoor

/-- The record at the beginning, and what is left. -/
def stepL (s : List UInt8) : Option (Rec × List UInt8) := if okOne ⟨s, false⟩ = true then some ((oneL ⟨s, false⟩).2.1, (oneL ⟨s, false⟩).2.2.s) else none
section
variable (st : List UInt8 → Option (Rec × List UInt8))
def allN : Nat → List UInt8 → List Rec × List UInt8
  | 0, s => ([], s)
  | f + 1, s => match st s with
    | none => ([], s)
    | some (r, t) => (r :: (allN f t).1, (allN f t).2)
variable {st}
theorem allN_enough (hst : ∀ s r t, st s = some (r, t) → t.length < s.length) : ∀ (f : Nat) (s : List UInt8), s.length ≤ f → allN st f s = allN st s.length s
  | 0, s, h => by rw [show s.length = 0 by omega]
  | f + 1, s, h => by
    cases hs : s.length with
    | zero =>
      have : s = [] := List.length_eq_zero_iff.1 hs
      subst this
      have h0 : st [] = none := by
        cases h1 : st [] with
        | none => rfl
        | some x => have := hst [] x.1 x.2 h1; simp at this
      unfold allN
      rw [h0]
    | succ m =>
      unfold allN
      cases h1 : st s with
      | none => rfl
      | some x =>
        obtain ⟨r, t⟩ := x
        have ht := hst s r t h1
        dsimp only
        rw [allN_enough hst f t (by omega), allN_enough hst m t (by omega)]
theorem allN_none {s : List UInt8} (h : st s = none) : allN st s.length s = ([], s) := by
  cases s.length with
  | zero => rfl
  | succ f => unfold allN; rw [h]
theorem allN_some (hst : ∀ s r t, st s = some (r, t) → t.length < s.length) {s : List UInt8} {r : Rec} {t : List UInt8} (h : st s = some (r, t)) : allN st s.length s = (r :: (allN st t.length t).1, (allN st t.length t).2) := by
  have ht := hst s r t h
  obtain ⟨f, hf⟩ : ∃ f, s.length = f + 1 := ⟨s.length - 1, by omega⟩
  rw [hf]
  unfold allN
  rw [h]
  dsimp only
  rw [allN_enough hst f t (by omega)]
  cases t.length <;> rfl
end
def allL (s : List UInt8) : List Rec × List UInt8 := allN stepL s.length s
theorem step_places {s : List UInt8} {r : Rec} {t : List UInt8} (h : stepL s = some (r, t)) : 0 < kOf s + 19 + nOf s ∧ kOf s + 19 + nOf s ≤ s.length ∧ r = recOf s ∧ t = s.drop (kOf s + 19 + nOf s) ∧ fitB r = true ∧ okOne ⟨s, false⟩ = true := by
  unfold stepL at h
  split at h
  · rename_i ho
    obtain ⟨hl, hf, _⟩ := (okOne_places s).1 ho
    rw [oneL_places hl] at h
    simp only [Option.some.injEq, Prod.mk.injEq] at h
    obtain ⟨rfl, rfl⟩ := h
    exact ⟨by omega, hl.2.2, rfl, rfl, hf, ho⟩
  · cases h
theorem step_short {s : List UInt8} {r : Rec} {t : List UInt8} (h : stepL s = some (r, t)) : t.length < s.length := by
  obtain ⟨h1, h2, _, rfl, _⟩ := step_places h
  rw [List.length_drop]
  omega
theorem allL_none {s : List UInt8} (h : stepL s = none) : allL s = ([], s) := allN_none h
theorem allL_some {s : List UInt8} {r : Rec} {t : List UInt8} (h : stepL s = some (r, t)) : allL s = (r :: (allL t).1, (allL t).2) := allN_some (fun _ _ _ h => step_short h) h
/-- So far: acc are read, t is left. -/
def RunL (s : List UInt8) (acc : List Rec) (t : List UInt8) : Prop := allL s = (acc ++ (allL t).1, (allL t).2)
theorem RunL.start (s : List UInt8) : RunL s [] s := by unfold RunL; rw [List.nil_append]
theorem RunL.next {s : List UInt8} {acc : List Rec} {t u : List UInt8} {r : Rec} (h : RunL s acc t) (hs : stepL t = some (r, u)) : RunL s (acc ++ [r]) u := by
  unfold RunL at h ⊢
  rw [h, allL_some hs]
  simp
theorem RunL.stop {s : List UInt8} {acc : List Rec} {t : List UInt8} (h : RunL s acc t) (hs : stepL t = none) : allL s = (acc, t) := by
  unfold RunL at h
  rw [h, allL_none hs]
  simp
theorem firstV_step (t : List UInt8) : (stepL t = none ∧ firstV t = .tuple #[.agg (recV zeroR), .int .i64 0]) ∨ ∃ n : Nat, 0 < n ∧ n ≤ t.length ∧ stepL t = some (recOf t, t.drop n) ∧ firstV t = .tuple #[.agg (recV (recOf t)), .int .i64 n] := by
  cases h : stepL t with
  | none =>
    refine .inl ⟨rfl, ?_⟩
    unfold firstV
    unfold stepL at h
    split at h
    · cases h
    · rename_i h'; rw [if_neg h']
  | some x =>
    obtain ⟨r, u⟩ := x
    obtain ⟨h1, h2, rfl, rfl, _, h3⟩ := step_places h
    refine .inr ⟨_, h1, h2, rfl, ?_⟩
    unfold firstV
    rw [if_pos h3]
end Go.Proofs.YtjjadgcpmfmlfaaDoor
namespace Go.Proofs.YtjjadgcpmfmlfaaDoor
open Go.RowKit Go.Shelf

/-- A record's cells. -/
def recVs (e : Rec) : List Value := [.int .i64 e.seq, .string e.subject, .int .i64 e.gen, .string e.prev, .string e.body]
/-- A slice of records. -/
def recsAt (w : World) (p : Option Addr) (l : List Rec) : Prop :=
  l = [] ∨ ∃ g o, p = some ⟨g, o, none⟩ ∧ g < w.heap.size ∧ ∀ j e, l[j]? = some e → ∀ i v, (recVs e)[i]? = some v → w.cell? ⟨g, o + j * 5 + i, none⟩ = some v
theorem recsAt_of {w w' : World} {p : Option Addr} {l : List Rec} (h : recsAt w p l) (hh : ∀ k, k < w.heap.size → w'.heap[k]? = w.heap[k]?) (hs : w.heap.size ≤ w'.heap.size) : recsAt w' p l := by
  rcases h with h | ⟨g, o, rfl, hg, hc⟩
  · exact .inl h
  · exact .inr ⟨g, o, rfl, Nat.lt_of_lt_of_le hg hs, fun j e hj i v hi => by have := hc j e hj i v hi; rw [cell_in] at this ⊢; rw [hh g hg]; exact this⟩
/-- Records' cells, one behind the other. -/
def flatRec (l : List Rec) : List Value := l.flatMap recVs
theorem flatRec_length : ∀ l : List Rec, (flatRec l).length = l.length * 5
  | [] => rfl
  | c :: l => by
    have h : flatRec (c :: l) = recVs c ++ flatRec l := rfl
    rw [h, List.length_append, flatRec_length l]
    simp [recVs]; omega
theorem flatRec_append (l m : List Rec) : flatRec (l ++ m) = flatRec l ++ flatRec m := List.flatMap_append
theorem flatRec_get : ∀ (l : List Rec) (j : Nat) (e : Rec), l[j]? = some e → ∀ i v, (recVs e)[i]? = some v → (flatRec l)[j * 5 + i]? = some v
  | [], j, e, h, _, _, _ => by simp at h
  | c :: l, 0, e, h, i, v, hv => by
    simp only [List.getElem?_cons_zero, Option.some.injEq] at h
    subst h
    have hi : i < 5 := (List.getElem?_eq_some_iff.1 hv).1
    show (recVs c ++ flatRec l)[0 * 5 + i]? = some v
    rw [List.getElem?_append_left (by simp [recVs]; omega), Nat.zero_mul, Nat.zero_add]
    exact hv
  | c :: l, j + 1, e, h, i, v, hv => by
    simp only [List.getElem?_cons_succ] at h
    show (recVs c ++ flatRec l)[(j + 1) * 5 + i]? = some v
    rw [List.getElem?_append_right (by simp [recVs]; omega)]
    have hl : (recVs c).length = 5 := rfl
    rw [hl, show (j + 1) * 5 + i - 5 = j * 5 + i by omega]
    exact flatRec_get l j e h i v hv
/-- A slice of events of the call's own. -/
def ownsRl (w : World) (base : Nat) (v : Value) (l : List Rec) : Prop := w.ownsRow base 45 5 v l.length (flatRec l)
theorem ownsRl_nil (w : World) (base : Nat) : ownsRl w base (.slice none 0 0) [] := ⟨rfl, .inl ⟨rfl, rfl⟩⟩
theorem infoRec : (Tryd.prog.info? 45).map (fun i => (i.zero, i.size, i.bytes)) = some (some (.agg (recV zeroR)), 5, 64) := by kernel_rfl
theorem ownsRl.kept {w w' : World} {base : Nat} {v : Value} {l : List Rec} {row : Option Nat} (h : ownsRl w base v l) (hg : w.grownBy w' row) (hne : ∀ g, v.ownBlock = some g → some g ≠ row) : ownsRl w' base v l := by
  obtain ⟨h1, ⟨rfl, h2⟩ | ⟨g, cap, cur, rfl, hb, hh, h3⟩⟩ := h
  · exact ⟨h1, .inl ⟨rfl, h2⟩⟩
  · exact ⟨h1, .inr ⟨g, cap, cur, rfl, hb, (hg.block g (lt_of_heap hh) (hne g rfl)).trans hh, h3⟩⟩
theorem ownsRl.base {w : World} {base : Nat} {v : Value} {l : List Rec} (h : ownsRl w base v l) {g : Nat} (hg : v.ownBlock = some g) : base ≤ g ∧ g < w.heap.size := by
  obtain ⟨h1, ⟨rfl, h2⟩ | ⟨g', cap, cur, rfl, hb, hh, h3⟩⟩ := h
  · simp [Value.ownBlock] at hg
  · simp only [Value.ownBlock, Option.some.injEq] at hg
    subst hg
    exact ⟨hb, lt_of_heap hh⟩
theorem ownsRl_shape {w : World} {base : Nat} {v : Value} {l : List Rec} (h : ownsRl w base v l) : ∃ q cap, v = .slice q l.length cap := by
  obtain ⟨_, ⟨h1, h2⟩ | ⟨g, cap, cur, h1, _⟩⟩ := h
  · exact ⟨none, 0, by rw [h1, h2]⟩
  · exact ⟨some ⟨g, 0, none⟩, cap, h1⟩
theorem recsAt_owned {w : World} {base : Nat} {q : Option Addr} {n cap : Nat} {l : List Rec} (h : ownsRl w base (.slice q n cap) l) : recsAt w q l := by
  obtain ⟨_, ⟨h1, h2⟩ | ⟨g, cap', cur, h1, _, hh, _, _, _, hx⟩⟩ := h
  · exact .inl (List.length_eq_zero_iff.1 h2)
  · cases h1
    refine .inr ⟨g, 0, rfl, lt_of_heap hh, fun j e hj i v hi => ?_⟩
    have hjl := (List.getElem?_eq_some_iff.1 hj).1
    have hi5 : i < 5 := (List.getElem?_eq_some_iff.1 hi).1
    have h1 : (cur.toList.take (l.length * 5))[j * 5 + i]? = (flatRec l)[j * 5 + i]? := by rw [hx]
    rw [List.getElem?_take_of_lt (by omega), flatRec_get l j e hj i v hi, Array.getElem?_toList] at h1
    rw [cell_in, hh]
    simp [cellIn, h1]
section
variable {ops : Array Oper} {rest : List Oper} {o : Oper} {a : Act} {w : World} {Q : Exit → Act → World → Prop}
/-- 'append(v, e)'. -/
theorem append_rec (base : Nat) (v : Value) (l : List Rec) (e : Rec) (s x : Operand) (cp : Nat)
    (ho : o.op = .call { callee := .builtin .append, args := #[s, x], argTypes := #[63, 63] }) (hgd : o.guard = none) (hs : a.eval s = v)
    (hx : a.eval x = .slice (some ⟨w.heap.size, 0, none⟩) 1 cp) (hown : ownsRl w base v l) (hlen : l.length ≤ 1099511627776) (hbase : base ≤ w.heap.size)
    (h : ∀ v' w', ownsRl w' base v' (l ++ [e]) → w.grownBy w' v.ownBlock → v' ≠ .slice none 0 0 → wpList Tryd.prog ops Q rest (a.put o.dst v') w') :
    wpList Tryd.prog ops Q (o :: rest) a (w.alloc (.cells #[.int .i64 e.seq, .string e.subject, .int .i64 e.gen, .string e.prev, .string e.body] 45)) := by
  obtain ⟨i0, hi, hz0, hz1, hz2⟩ := info_parts infoRec
  refine wpList_append_own_at _ hgd s x 63 ho base 45 i0 (.agg (recV zeroR)) 5 64 Tryd.underlying63 hi hz0 hz1 hz2 rfl (by decide) v l.length (flatRec l) hs (World.ownsRow.alloc hown _)
    ⟨w.heap.size, 0, none⟩ 1 cp (recVs e) hx rfl ?_ (by intro u hu; simp [recVs] at hu; rcases hu with rfl | rfl | rfl | rfl | rfl <;> rfl) (by unfold maxLen; omega) (by omega) (by simp; omega) ?_
  · intro j u hj
    have hadd : (⟨w.heap.size, 0, none⟩ : Addr).add j = ⟨w.heap.size, j, none⟩ := by unfold Addr.add; split <;> simp_all
    rw [hadd, World.cell?_alloc_new, show #[Value.int .i64 e.seq, .string e.subject, .int .i64 e.gen, .string e.prev, .string e.body] = (recVs e).toArray from rfl, List.getElem?_toArray]
    exact hj
  · intro v' w' h1 h2 h3 _
    refine h v' w' ?_ ((World.grownBy_alloc w _ _).trans h2) (fun e => by have := (h3.1 e).2; omega)
    unfold ownsRl
    rw [flatRec_append, List.length_append]
    exact h1
end
end Go.Proofs.YtjjadgcpmfmlfaaDoor
namespace Go.Proofs.YtjjadgcpmfmlfaaDoor
open Go.RowKit Go.Shelf
attribute [local go_sem] Oper.semAt_some

/-- How many bytes are left in the reader. -/
def rdLen (w : World) (rb : Nat) : Nat := match w.cell? ⟨rb, 0, none⟩ with
  | some (.string s) => s.size
  | _ => 0
theorem rdLen_at {w : World} {rb : Nat} {st : St} (h : readerAt w rb st) : rdLen w rb = st.s.length := by
  unfold rdLen
  rw [(reader_cells h).1]
  exact mkS_size _
theorem step_nil : stepL [] = none := by
  cases h : stepL [] with
  | none => rfl
  | some x => exact absurd (step_short (r := x.1) (t := x.2) h) (by simp)
theorem step_none {t : List UInt8} (h : stepL t = none) : okOne ⟨t, false⟩ = false := by
  unfold stepL at h
  split at h
  · cases h
  · rename_i h'; simpa using h'
theorem step_some {t u : List UInt8} {r : Rec} (h : stepL t = some (r, u)) : okOne ⟨t, false⟩ = true ∧ (oneL ⟨t, false⟩).2.1 = r ∧ (oneL ⟨t, false⟩).2.2 = ⟨u, false⟩ := by
  have ho := (step_places h).2.2.2.2.2
  unfold stepL at h
  rw [if_pos ho] at h
  simp only [Option.some.injEq, Prod.mk.injEq] at h
  obtain ⟨h1, h2⟩ := h
  have hb := ((okOne_iff _).1 ho).1
  refine ⟨ho, h1, ?_⟩
  generalize (oneL ⟨t, false⟩).2.2 = x at h2 hb
  obtain ⟨a, b⟩ := x
  dsimp only at h2 hb
  rw [h2, hb]
set_option maxRecDepth 100000 in
set_option maxHeartbeats 4000000 in
theorem all_in (l rb : Nat) (s : List UInt8) (hs : s.length ≤ 1048576) (J : List Rec → List UInt8 → World → Prop) (W : World)
    (hJ : ∀ acc t A B, J acc t A → A.grownBy B (some rb) → J acc t B)
    (hY : ∀ acc t r u A, J acc t A → stepL t = some (r, u) → readerAt A rb ⟨u, false⟩ → Rounds A → YieldAt Fence.wide 1 Tryd.prog l #[.int .i64 (u.length : Nat), .agg (recV r)] A fun e B => e = .returned (.bool true) ∧ J (acc ++ [r]) u B ∧ readerAt B rb ⟨u, false⟩ ∧ Rounds B)
    (hrd : readerAt W rb ⟨s, false⟩) (hRo : Rounds W) (h0 : J [] s W) :
    CallsIn Fence.wide 2 Tryd.prog 93 #[.pointer (some ⟨rb, 0, none⟩), .func (.yield l) #[] #[]] W fun e B => (∃ v, e = .returned v) ∧ ∃ acc t, RunL s acc t ∧ stepL t = none ∧ J acc t B := by
  have hmix : Tryd.prog.follows .mixedOrders = true := by kernel_rfl
  have JJ0 := Lib.hid h0
  have RD0 := Lib.hid hrd
  have RO0 := Lib.hid hRo
  have HJ := Lib.hid hJ
  have HY := Lib.hid hY
  clear h0 hrd hRo hJ hY
  refine callsIn_of_wp Tryd.func93 rfl trivial ?_ rfl
  simp only [Tryd.ntmps93, List.size_toArray, List.length_cons, List.length_nil, Nat.reduceAdd, Nat.reduceSub, Array.replicate_succ, Array.replicate_zero, List.push_toArray, List.append_toArray, List.nil_append, List.cons_append]
  gi_wp2
  gi_loopw [5] (fun _ wr => ∃ acc t, Hid (RunL s acc t) ∧ Hid (J acc t wr) ∧ Hid (readerAt wr rb ⟨t, false⟩) ∧ Hid (Rounds wr) ∧ Hid (t.length ≤ s.length)) (fun _ wr => rdLen wr rb)
  case atStart => exact ⟨[], s, Lib.hid (RunL.start s), JJ0, RD0, RO0, Lib.hid (Nat.le_refl _)⟩
  case round =>
    clear JJ0 RD0 RO0
    obtain ⟨acc, t, RU, JJ, RD, RO, LE⟩ := hrel
    obtain ⟨c0, c1⟩ := reader_cells RD.out
    dsimp only at c0 c1
    have hss : (mkS t).toList = t := by rw [ByteArray.toList_eq]; rfl
    have hrb : rb < wr.heap.size := lt_of_heap (show wr.heap[rb]? = _ from RD.out)
    cases t with
    | nil =>
      gi_wp2
      go_end0
      exact ⟨⟨_, rfl⟩, acc, [], RU.out, step_nil, JJ.out⟩
    | cons c t =>
      have ON := (callsIn_wide (n := 1)).2 (one_any ⟨c :: t, false⟩ (Nat.le_trans LE.out hs) rb wr RD.out RO.out)
      cases hst : stepL (c :: t) with
      | none =>
        rw [step_none hst] at ON
        generalize (oneL ⟨c :: t, false⟩).2.1 = r at ON
        generalize (oneL ⟨c :: t, false⟩).2.2 = st at ON
        obtain ⟨q, u, g, p, b⟩ := r
        unfold recV at ON
        dsimp only at ON
        have SN := Lib.hid hst
        clear hst
        gi_wp2_with (refine ⟨trivial, ?_⟩; gi_at_call 83; refine ON.mono ?_; rintro _ w2 ⟨rfl, r2, g2⟩)
        have J2 := Lib.hid (HJ.out _ _ _ _ JJ.out (g2.trans (World.grownBy_alloc w2 (.cells #[.int .i64 q, .string u, .int .i64 g, .string p, .string b] 45) (some rb))))
        have J3 := Lib.hid (fun k => HJ.out _ _ _ ((w2.alloc (.cells #[.int .i64 q, .string u, .int .i64 g, .string p, .string b] 45)).drewN k) J2.out ⟨rfl, rfl, rfl, Nat.le_refl _, fun _ _ _ => rfl⟩)
        clear ON RD RO JJ r2 J2 g2
        refine wpIn_region_quiet_lit rfl hmix (by kernel_rfl) ?_
        repeat (gi_big_quiet_step (fail))
        refine BigFrame.wpQuietIn_skip (fun _ _ _ _ => trivial) rfl ?_
        go_simp
        repeat (gi_big_quiet_step (fail))
        refine wpQuietIn_nil ?_
        intro nq
        gi_wp2
        refine bodyPost_ret (results_none rfl _ _ _) rfl ?_
        exact ⟨⟨_, rfl⟩, acc, c :: t, RU.out, SN.out, J3.out _⟩
      | some x =>
        obtain ⟨r, u⟩ := x
        obtain ⟨h1, h2, h3⟩ := step_some hst
        rw [h1, h2, h3] at ON
        have hul := step_short hst
        have SN := Lib.hid hst
        have hY := fun A hj hr hR => HY.out acc (c :: t) r u A hj hst hr hR
        have RN := Lib.hid (RU.out.next hst)
        clear hst h1 h2 h3
        obtain ⟨q, v, g, p, b⟩ := r
        unfold recV at ON hY
        dsimp only at ON hY
        gi_wp2_with (refine ⟨trivial, ?_⟩; gi_at_call 83; refine ON.mono ?_; rintro _ w2 ⟨rfl, r2, g2⟩)
        have GA := World.grownBy_alloc w2 (.cells #[.int .i64 q, .string v, .int .i64 g, .string p, .string b] 45) (some rb)
        have GD : World.grownBy (w2.alloc (.cells #[.int .i64 q, .string v, .int .i64 g, .string p, .string b] 45)) (w2.alloc (.cells #[.int .i64 q, .string v, .int .i64 g, .string p, .string b] 45)).drew (some rb) := ⟨rfl, rfl, rfl, Nat.le_refl _, fun _ _ _ => rfl⟩
        have J3 := HJ.out _ _ _ _ JJ.out ((g2.trans GA).trans GD)
        have r3 : readerAt (w2.alloc (.cells #[.int .i64 q, .string v, .int .i64 g, .string p, .string b] 45)).drew rb ⟨u, false⟩ := (Below.heap_alloc w2 _ rb (lt_of_heap (show w2.heap[rb]? = _ from r2))).trans r2
        have R3 : Rounds (w2.alloc (.cells #[.int .i64 q, .string v, .int .i64 g, .string p, .string b] 45)).drew := Rounds_ext (Rounds_reader RO.out RD.out g2) (ext_drew (ext_alloc _ (ext_refl w2)))
        obtain ⟨fn, tmps, assign, body, hy, hR⟩ := hY _ J3 r3 R3
        obtain ⟨d0, d1⟩ := reader_cells r3
        dsimp only at d0 d1
        have hsz : (mkS u).size = u.length := mkS_size u
        have hrb2 : rb < w2.heap.size := lt_of_heap (show w2.heap[rb]? = _ from r2)
        have hlt := Lib.hid (rdLen_at RD.out)
        clear ON RD JJ GA GD J3 r3 R3 r2 hY
        have hmix2 := hmix
        gi_region_with_o (refine hR.mono ?_; rintro e W3 ⟨rfl, J4, r4, R4⟩)
        all_goals
          clear hy hR d0 d1 hsz c0 c1 hss
          go_simp
          gi_wp2
          go_roundw
          case rel => exact ⟨acc ++ [⟨q, v, g, p, b⟩], u, RN, Lib.hid J4, Lib.hid r4, Lib.hid R4, Lib.hid (by have := LE.out; omega)⟩
          case measure => rw [rdLen_at r4, hlt.out]; exact hul
end Go.Proofs.YtjjadgcpmfmlfaaDoor
namespace Go.Proofs.YtjjadgcpmfmlfaaDoor
open Go.RowKit Go.Shelf

/-- What All hands back. -/
def AllPost (s : ByteArray) (w : World) (r : Ending) (w' : World) : Prop :=
  ∃ v, r = .returned (.tuple #[v, .int .i64 ((s.size - (allL (bs s)).2.length : Nat) : Int)]) ∧ ownsRl w' w.heap.size v (allL (bs s)).1 ∧ (allL (bs s)).1.length ≤ s.size ∧ Below w.heap.size w w'
theorem extract_drop (s : ByteArray) (n : Nat) : s.extract n s.size = mkS ((bs s).drop n) := by
  have := cut_back (bs s) n
  rwa [mkS_bs, bs_length] at this
set_option maxRecDepth 100000 in
set_option maxHeartbeats 4000000 in
theorem rall_any (rb : Nat) (s : ByteArray) (w : World) (hs : s.size ≤ 1048576) (hR : isR w rb) :
    Calls Tryd.prog 45 #[.pointer (some ⟨rb, 0, none⟩), .string s] w (AllPost s w) := by
  have R := Lib.hid hR
  clear hR
  have hrb : rb < w.heap.size := lt_of_heap R.out
  go_enter Tryd.func45, Tryd.ntmps45
  go_wp2_with fail
  go_loopw [6, 7] (fun lv av wr => ∃ (at' : Nat) (acc : List Rec), at' ≤ s.size ∧ av = .int .i64 at' ∧ Hid (acc.length ≤ at') ∧ Hid (RunL (bs s) acc ((bs s).drop at')) ∧ Hid (ownsRl wr w.heap.size lv acc) ∧ Hid (Below w.heap.size w wr)) (fun _ av _ => s.size - (intOf av).toNat)
  case atStart => exact ⟨0, [], Nat.zero_le _, rfl, Lib.hid (Nat.le_refl _), Lib.hid (RunL.start _), Lib.hid (ownsRl_nil _ _), Lib.hid (Below.refl _ _)⟩
  case round =>
    obtain ⟨at', acc, hat, rfl, LE, RU, OW, BB⟩ := hrel
    have hat' : (at' : Int) ≤ s.size := by omega
    have hsz : (s.extract at' s.size).size ≤ 1048576 := by rw [ByteArray.size_extract]; omega
    have FA := first_any rb (s.extract at' s.size) wr hsz (isR_ext R.out (ext_of BB.out))
    rw [show bs (s.extract at' s.size) = (bs s).drop at' by rw [extract_drop, bs_mkS]] at FA
    have hbs := BB.out.size
    have HBL := Lib.hid (show ((bs s).drop at').length = s.size - at' by rw [List.length_drop, bs_length])
    rcases firstV_step ((bs s).drop at') with ⟨h1, h2⟩ | ⟨n, hn0, hnl, h1, h2⟩
    · rw [h2] at FA
      have ST := Lib.hid (RU.out.stop h1)
      have HL : Hid (s.size - ((bs s).drop at').length = at') := Lib.hid (by rw [HBL.out]; omega)
      unfold recV zeroR at FA
      dsimp only at FA
      clear h1 h2 RU
      generalize (bs s).drop at' = t at ST HL HBL
      go_wp2_with fail
      refine FA.mono ?_
      rintro _ w2 ⟨rfl, hx⟩
      have O2 := Lib.hid (OW.out.kept (grown_below (ext_iff.1 hx) none) (by simp))
      have B2 := Lib.hid (BB.out.trans ((ext_iff.1 hx).mono hbs))
      clear FA hx OW BB
      have O3 := Lib.hid (O2.out.kept (World.grownBy_alloc w2 (.cells #[.int .i64 0, .string ⟨#[]⟩, .int .i64 0, .string ⟨#[]⟩, .string ⟨#[]⟩] 45) none) (by simp))
      have B3 := Lib.hid (B2.out.alloc B2.out.size (.cells #[.int .i64 0, .string ⟨#[]⟩, .int .i64 0, .string ⟨#[]⟩, .string ⟨#[]⟩] 45))
      go_wp2_with fail
      go_ret2
      unfold AllPost
      rw [ST.out, HL.out]
      exact ⟨_, rfl, O3.out, (Nat.le_trans LE.out hat : acc.length ≤ s.size), B3.out⟩
    · rw [h2] at FA
      have RN := Lib.hid (RU.out.next h1)
      rw [List.drop_drop] at RN
      rw [HBL.out] at hnl
      generalize recOf ((bs s).drop at') = r at FA RN
      obtain ⟨q, u, g, p, b⟩ := r
      unfold recV at FA
      dsimp only at FA
      have hn0' : ((n : Int) == 0) = false := beq_eq_false_iff_ne.2 (by omega)
      have hal : acc.length ≤ 1099511627776 := by have := LE.out; omega
      clear h1 h2 RU HBL
      go_wp2_with fail
      refine FA.mono ?_
      rintro _ w2 ⟨rfl, hx⟩
      have O2 := Lib.hid (OW.out.kept (grown_below (ext_iff.1 hx) none) (by simp))
      have B2 := Lib.hid (BB.out.trans ((ext_iff.1 hx).mono hbs))
      clear FA hx OW BB
      have O3 := Lib.hid (O2.out.kept (World.grownBy_alloc w2 (.cells #[.int .i64 q, .string u, .int .i64 g, .string p, .string b] 45) none) (by simp))
      have B3 := Lib.hid (B2.out.alloc B2.out.size (.cells #[.int .i64 q, .string u, .int .i64 g, .string p, .string b] 45))
      have s9 : (w2.alloc (.cells #[.int .i64 q, .string u, .int .i64 g, .string p, .string b] 45)).heap.size = w2.heap.size + 1 := by simp
      have hb9 : w.heap.size ≤ (w2.alloc (.cells #[.int .i64 q, .string u, .int .i64 g, .string p, .string b] 45)).heap.size := B3.out.size
      have NB := Lib.hid (fun g (hg : u6.ownBlock = some g) => (O2.out.base hg).1)
      clear O2 B2
      go_wp2_with (at_builtin; go_must (refine append_rec w.heap.size u6 acc ⟨q, u, g, p, b⟩ (.tmp 22) (.tmp 24) _ rfl rfl rfl (by rw [s9]; rfl) O3.out hal hb9 ?_); intro v' w' OWn g' hnn)
      go_roundw
      case rel => exact ⟨at' + n, acc ++ [⟨q, u, g, p, b⟩], by omega, by go_num, Lib.hid (by have := LE.out; simp; omega), RN, Lib.hid OWn, Lib.hid (B3.out.grown g' hb9 (fun j hj => NB.out j hj))⟩
      case measure => simp [intOf]; omega
end Go.Proofs.YtjjadgcpmfmlfaaDoor
namespace Go.Proofs.YtjjadgcpmfmlfaaDoor
open Go.RowKit Go.Shelf
attribute [local go_sem] Oper.semAt_some

/-- How a round's body is left: off its end; the loop's record and the block for the rounds' deferred calls as they were. -/
def roundEnd (I : World → Prop) (l d : Nat) (A1 : World) : Exit → Act → World → Prop
  | .normal, _, A2 => A2.heap[l]? = A1.heap[l]? ∧ A2.heap[d]? = A1.heap[d]? ∧ I A2
  | .ret, _, _ => False
  | .exit _, _, _ => False
  | .goto _, _, _ => False
  | .panic _, _, _ => False
  | .outgrown, _, _ => False
/-- 'for left, x := range r.all { .. }', whose body never leaves early. -/
theorem wpIn_all {g : Operand} {ps : Array Tmp} {assign body : Code} {Q : Exit → Act → World → Prop} {a : Act} {w : World} (rb : Nat) (s : List UInt8) (hs : s.length ≤ 1048576)
    (hg : a.eval g = .func (.func 93) #[.pointer (some ⟨rb, 0, none⟩)] #[]) (hps : ps.size = 2) (hrd : readerAt w rb ⟨s, false⟩) (hRo : Rounds w)
    (I : List Rec → List UInt8 → World → Prop) (h0 : I [] s w)
    (hI : ∀ acc t A B row, I acc t A → A.grownBy B row → (∀ r, row = some r → r = rb ∨ r = w.heap.size + 1) → I acc t B)
    (hround : ∀ acc t r u A, I acc t A → stepL t = some (r, u) → readerAt A rb ⟨u, false⟩ → Rounds A → w.heap.size + 2 ≤ A.heap.size →
      assign.wpIn (Fence.wide.inRound (w.heap.size + 1)) 1 Tryd.prog (Exit.then (fun a1 A1 => (∃ o, A1 = A.alloc o) ∧ ∀ o, body.wpIn (Fence.wide.inRound (w.heap.size + 1)) 1 Tryd.prog (roundEnd (fun A2 => I (acc ++ [r]) u A2 ∧ readerAt A2 rb ⟨u, false⟩ ∧ Rounds A2) (w.heap.size + 1) w.heap.size (A1.putObj (w.heap.size + 1) o)) a1 (A1.putObj (w.heap.size + 1) o)) (fun _ _ _ => False))
        { tmps := (ps.zip #[.int .i64 (u.length : Nat), .agg (recV r)]).foldl (fun t (p, v) => t.setIfInBounds p v) a.tmps, defers := [] } A)
    (hdone : ∀ acc t A, RunL s acc t → stepL t = none → I acc t A → A.heap[w.heap.size]? = some (.deferred (some [])) → Q .normal { a with defers := { target := .collected w.heap.size, args := #[] } :: a.defers } A) :
    (Code.rangeFunc g ps assign body).wpIn Fence.wide 4 Tryd.prog Q a w := by
  have hrb : rb < w.heap.size := lt_of_heap (show w.heap[rb]? = _ from hrd)
  refine wpIn_rangeFunc ?_
  intro fn hfn
  obtain ⟨rec, hrec⟩ : ∃ rec : LoopState → Option Code → Loop, rec = fun st pe => { state := st, pending := pe, fn, tmps := a.tmps, params := ps, assign, body, defers := w.heap.size } := ⟨_, rfl⟩
  obtain ⟨W1, hW1⟩ : ∃ W1, (w.alloc (.deferred (some []))).alloc (.loop (rec .ready none)) = W1 := ⟨_, rfl⟩
  have hL1 : W1.heap[w.heap.size + 1]? = some (.loop (rec .ready none)) := by
    rw [← hW1]; have := World.alloc_heap_new (w.alloc (.deferred (some []))) (.loop (rec .ready none)); rwa [World.size_alloc] at this
  have hK1 : W1.heap[w.heap.size]? = some (.deferred (some [])) := by
    rw [← hW1]; exact (Below.heap_alloc _ _ _ (by simp)).trans (World.alloc_heap_new w _)
  have hG1 : w.grownBy W1 none := by rw [← hW1]; exact (World.grownBy_alloc w _ none).trans (World.grownBy_alloc _ _ none)
  have hI1 : I [] s W1 := hI _ _ _ _ none h0 hG1 (fun _ h => by cases h)
  have hrd1 : readerAt W1 rb ⟨s, false⟩ := (hG1.block rb hrb (by simp)).trans hrd
  have hR1 : Rounds W1 := Rounds_of hRo (fun k hk => hG1.block k hk (by simp)) hG1.size
  have hs1 : w.heap.size + 2 ≤ W1.heap.size := by rw [← hW1]; simp
  refine ⟨w.heap.size + 1, [{ target := .collected w.heap.size, args := #[] }], W1, { target := .fn (.func 93) #[], args := #[.pointer (some ⟨rb, 0, none⟩), .func (.yield (w.heap.size + 1)) #[] #[]] }, W1, 93,
    #[.pointer (some ⟨rb, 0, none⟩), .func (.yield (w.heap.size + 1)) #[] #[]], W1, ?_, ?_, ?_, ?_, fun h => (by cases h), ?_⟩
  · rw [← hW1, hrec]; exact run_enterLoop_outer _ _ _ _ _
  · simp only [resolve, hg]
    simp [go_sem]
  · intro f' _; trivial
  · simp [invoke, go_sem]
  · refine (CallsIn.more (all_in (w.heap.size + 1) rb s hs (fun acc t A => (I acc t A ∧ w.heap.size + 2 ≤ A.heap.size) ∧ A.heap[w.heap.size + 1]? = some (.loop (rec .ready none)) ∧ A.heap[w.heap.size]? = some (.deferred (some []))) W1 ?_ ?_ hrd1 hR1 ⟨⟨hI1, hs1⟩, hL1, hK1⟩) (by decide)).mono ?_
    · rintro acc t A B ⟨⟨hi, hz⟩, hl, hk⟩ hgr
      refine ⟨⟨hI _ _ _ _ _ hi hgr (fun r h => by injection h with h; exact .inl h.symm), Nat.le_trans hz hgr.size⟩, (hgr.block _ (lt_of_heap hl) (by intro h; injection h with h; omega)).trans hl, (hgr.block _ (lt_of_heap hk) (by intro h; injection h with h; omega)).trans hk⟩
    · rintro acc t r u A ⟨⟨hi, hz⟩, hl, hk⟩ hst hr hRd
      have hy := run_yield (P := Tryd.prog) (args := #[.int .i64 (u.length : Nat), .agg (recV r)]) hl (by rw [hrec]; exact hps.symm)
      rw [hrec] at hy
      refine ⟨fn, _, assign, body, hy, roundIn_of_wpIn hfn ?_⟩
      refine wpIn_mono (hround acc t r u A hi hst hr hRd hz) ?_
      rintro e a1 A1 hp
      cases e with
      | normal =>
        obtain ⟨⟨o, rfl⟩, hb⟩ := hp
        have hl1 : (A.alloc o).heap[w.heap.size + 1]? = some (.loop (rec .ready none)) := (Below.heap_alloc _ _ _ (lt_of_heap hl)).trans hl
        have hk1 : (A.alloc o).heap[w.heap.size]? = some (.deferred (some [])) := (Below.heap_alloc _ _ _ (lt_of_heap hk)).trans hk
        refine ⟨_, run_beginRound hl1 (by rw [hrec]), wpIn_mono (hb _) ?_⟩
        rintro e2 a2 A2 hp2
        cases e2 with
        | normal =>
          obtain ⟨h1, h2, hi2, hr2, hR2⟩ := hp2
          rw [World.putObj_heap_same (lt_of_heap hl1)] at h1
          rw [World.putObj_heap_other (by omega), hk1] at h2
          refine ⟨_, _, run_endRound none h1, rfl, ?_, ?_, ?_⟩
          · have hgp : A2.grownBy (A2.putObj (w.heap.size + 1) (.loop (rec .ready none))) (some (w.heap.size + 1)) := grownBy_putObj' A2 _ _
            rw [hrec] at hgp ⊢
            refine ⟨⟨hI _ _ _ _ _ hi2 hgp (fun r h => by injection h with h; exact .inr h.symm), Nat.le_trans ?_ hgp.size⟩, World.putObj_heap_same (lt_of_heap h1), (World.putObj_heap_other (by omega)).trans h2⟩
            have := lt_of_heap h1
            omega
          · exact (World.putObj_heap_other (by omega)).trans hr2
          · exact Rounds_grown hR2 (grownBy_putObj' A2 _ _) (by have := hRo.1; omega)
        | ret => exact hp2.elim
        | exit id => exact hp2.elim
        | goto t => exact hp2.elim
        | panic ch => exact hp2.elim
        | outgrown => exact hp2.elim
      | ret => exact hp.elim
      | exit id => exact hp.elim
      | goto t => exact hp.elim
      | panic ch => exact hp.elim
      | outgrown => exact hp.elim
    · rintro e W2 ⟨⟨v, rfl⟩, acc, t, hrun, hst, ⟨hi, hz⟩, hl, hk⟩
      have he := run_endLoop (P := Tryd.prog) hl (by rw [hrec]; simp)
      rw [hrec] at he
      refine ⟨none, _, he, ?_⟩
      refine hdone acc t _ hrun hst (hI _ _ _ _ _ hi (grownBy_putObj' W2 _ _) (fun r h => by injection h with h; exact .inr h.symm)) ((World.putObj_heap_other (by omega)).trans hk)
/-- What lies in the caller's blocks between two rounds: its text, what has been read, how many bytes that took. -/
def IAll (s : ByteArray) (w0 : World) (k : Nat) (acc : List Rec) (t : List UInt8) (A : World) : Prop :=
  A.heap[k]? = some (.cells #[.string s] 9 (0, 0)) ∧ (∃ v, A.heap[k + 1]? = some (.cells #[v] 63 (0, 0)) ∧ ownsRl A (k + 6) v acc) ∧
  A.heap[k + 2]? = some (.cells #[.int .i64 ((s.size - t.length : Nat) : Int)] 3 (0, 0)) ∧ (acc.length ≤ s.size - t.length ∧ t.length ≤ s.size) ∧ Below k w0 A ∧ k + 4 ≤ A.heap.size
theorem IAll.grow {s : ByteArray} {w0 : World} {k : Nat} {acc : List Rec} {t : List UInt8} {A B : World} {row : Option Nat} (h : IAll s w0 k acc t A) (g : A.grownBy B row) (hr : ∀ r, row = some r → r = k + 3 ∨ r = k + 4 + 1) : IAll s w0 k acc t B := by
  obtain ⟨h1, ⟨v, h2, h3⟩, h4, h5, h6, h7⟩ := h
  have hn : ∀ j, (j ≠ k + 3 ∧ j ≠ k + 5) → some j ≠ row := fun j hj e => by
    have := hr j e.symm
    omega
  refine ⟨(g.block _ (lt_of_heap h1) (hn _ (by omega))).trans h1, ⟨v, (g.block _ (lt_of_heap h2) (hn _ (by omega))).trans h2, h3.kept g (fun j hj => hn j (by have := (h3.base hj).1; omega))⟩, (g.block _ (lt_of_heap h4) (hn _ (by omega))).trans h4, h5, ?_, Nat.le_trans h7 g.size⟩
  exact h6.grown g (by omega) (fun j hj => by have := hr j hj; omega)
theorem cellOne {w : World} {b : Nat} {v : Value} {t : TypeId} {f : Nat × Nat} (h : w.heap[b]? = some (.cells #[v] t f)) : w.cell? ⟨b, 0, none⟩ = some v := by rw [cell_in, h]; rfl
theorem ownsRl_low {w : World} {base b : Nat} {v : Value} {l : List Rec} (h : ownsRl w base v l) (hb : b ≤ base) : ownsRl w b v l := by
  obtain ⟨h1, h2 | ⟨g, cap, cur, hv, hb', h3⟩⟩ := h
  · exact ⟨h1, .inl h2⟩
  · exact ⟨h1, .inr ⟨g, cap, cur, hv, Nat.le_trans hb hb', h3⟩⟩
set_option maxRecDepth 100000 in
set_option maxHeartbeats 4000000 in
theorem wall_any (s : ByteArray) (w : World) (hs : s.size ≤ 1048576) (hR : Rounds w) :
    Calls Tryd.prog 46 #[.string s] w (AllPost s w) := by
  have hmix : Tryd.prog.follows .mixedOrders = true := by kernel_rfl
  have RO := Lib.hid hR
  clear hR
  refine (callsIn_wide (n := 4)).1 ?_
  refine callsIn_of_wp_marks Tryd.func46 rfl trivial ?_ rfl
  simp only [Tryd.ntmps46, List.size_toArray, List.length_cons, List.length_nil, Nat.reduceAdd, Nat.reduceSub, Array.replicate_succ, Array.replicate_zero, List.push_toArray, List.append_toArray, List.nil_append, List.cons_append]
  gi_wp2
  have H0 := heap_alloc_at w (.cells #[.string s] 9)
  have e1 : (w.alloc (.cells #[.string s] 9)).heap.size = w.heap.size + 1 := by simp
  have g1 := World.grownBy_alloc w (.cells #[.string s] 9) none
  generalize w.alloc (.cells #[.string s] 9) = wa at H0 e1 g1 ⊢
  have H1 := heap_alloc_at wa (.cells #[.slice none 0 0] 63)
  have e2 : (wa.alloc (.cells #[.slice none 0 0] 63)).heap.size = w.heap.size + 2 := by simp; omega
  have g2 := World.grownBy_alloc wa (.cells #[.slice none 0 0] 63) none
  generalize wa.alloc (.cells #[.slice none 0 0] 63) = wb at H1 e2 g2 ⊢
  have H2 := heap_alloc_at wb (.cells #[.int .i64 0] 3)
  have e3 : (wb.alloc (.cells #[.int .i64 0] 3)).heap.size = w.heap.size + 3 := by simp; omega
  have g3 := World.grownBy_alloc wb (.cells #[.int .i64 0] 3) none
  generalize wb.alloc (.cells #[.int .i64 0] 3) = wc at H2 e3 g3 ⊢
  have H3 := heap_alloc_at wc (.cells #[.string s, .bool false] 125)
  have e4 : (wc.alloc (.cells #[.string s, .bool false] 125)).heap.size = w.heap.size + 4 := by simp; omega
  have g4 := World.grownBy_alloc wc (.cells #[.string s, .bool false] 125) none
  generalize wc.alloc (.cells #[.string s, .bool false] 125) = wd at H3 e4 g4 ⊢
  rw [e1] at H1
  rw [e2] at H2
  rw [e3] at H3
  have gd := ((g1.trans g2).trans g3).trans g4
  have B4 : Below w.heap.size w wd := ⟨gd.os, gd.tape, gd.output, gd.size, fun k hk => gd.block k hk (by simp)⟩
  have I0 : IAll s w w.heap.size [] (bs s) wd := ⟨(((g2.trans g3).trans g4).block _ (by omega) (by simp)).trans H0, ⟨.slice none 0 0, ((g3.trans g4).block _ (by omega) (by simp)).trans H1, ownsRl_nil _ _⟩, ((g4.block _ (by omega) (by simp)).trans H2).trans (by rw [bs_length, Nat.sub_self]; rfl), by rw [bs_length]; simp, B4, by omega⟩
  have RD0 : readerAt wd (w.heap.size + 3) ⟨bs s, false⟩ := H3
  have RO4 := Rounds_ext RO.out (ext_of B4)
  clear H0 H1 H2 H3 g1 g2 g3 g4 gd
  refine wpIn_all (w.heap.size + 3) (bs s) (by rw [bs_length]; exact hs) rfl rfl RD0 RO4 (IAll s w w.heap.size) I0 ?_ ?_ ?_
  · intro acc t A B row hi hg hr
    rw [e4] at hr
    exact hi.grow hg hr
  · intro acc t r u A hi hst hr hRd hz
    rw [e4] at hz ⊢
    obtain ⟨q, v, g, p, b⟩ := r
    unfold recV
    dsimp only
    have hul := step_short hst
    obtain ⟨i1, ⟨vv, i2, i3⟩, i4, ⟨i5, i5b⟩, i6, i7⟩ := hi
    gi_wp2
    refine ⟨⟨_, rfl⟩, fun o => ?_⟩
    have G2 : A.grownBy ((A.alloc (.cells #[.int .i64 q, .string v, .int .i64 g, .string p, .string b] 45)).putObj (w.heap.size + 4 + 1) o) (some (w.heap.size + 4 + 1)) := (World.grownBy_alloc A _ _).trans (grownBy_putObj' _ _ _)
    have HRc : ((A.alloc (.cells #[.int .i64 q, .string v, .int .i64 g, .string p, .string b] 45)).putObj (w.heap.size + 4 + 1) o).heap[A.heap.size]? = some (.cells #[.int .i64 q, .string v, .int .i64 g, .string p, .string b] 45 (0, 0)) := (World.putObj_heap_other (by omega)).trans (heap_alloc_at A _)
    generalize (A.alloc (.cells #[.int .i64 q, .string v, .int .i64 g, .string p, .string b] 45)).putObj (w.heap.size + 4 + 1) o = A2 at G2 HRc ⊢
    have hb : ∀ j, j < w.heap.size + 4 → A2.heap[j]? = A.heap[j]? := fun j hj => G2.block j (by omega) (by intro h; injection h with h; omega)
    have j1 := (hb _ (by omega)).trans i1
    have j2 := (hb _ (by omega)).trans i2
    have j4 := (hb _ (by omega)).trans i4
    have jr : readerAt A2 (w.heap.size + 3) ⟨u, false⟩ := (hb _ (by omega)).trans hr
    have jR := Rounds_grown hRd G2 (by have := RO.out.1; omega)
    have O2 : ownsRl A2 (w.heap.size + 6) vv acc := i3.kept G2 (fun j hj e => by injection e with e; have := (i3.base hj).1; omega)
    have B2 : Below w.heap.size w A2 := i6.grown G2 (by omega) (by rintro _ ⟨⟩; omega)
    have hA2 : w.heap.size + 6 ≤ A2.heap.size := Nat.le_trans hz G2.size
    obtain ⟨d0, d1, d2, d3, d4⟩ := rec_cells (r := ⟨q, v, g, p, b⟩) HRc
    dsimp only at d0 d1 d2 d3 d4
    have c1 := cellOne j2
    obtain ⟨i0, hi0, hz0, hz1, hz2⟩ := info_parts infoRec
    have hcell : ∀ j u, (recVs ⟨q, v, g, p, b⟩)[j]? = some u → (A2.alloc (.cells #[.int .i64 q, .string v, .int .i64 g, .string p, .string b] 45)).cell? ((⟨A2.heap.size, 0, none⟩ : Addr).add j) = some u := by
      intro j u hj
      have hadd : (⟨A2.heap.size, 0, none⟩ : Addr).add j = ⟨A2.heap.size, j, none⟩ := by unfold Addr.add; split <;> simp_all
      rw [hadd, World.cell?_alloc_new, show #[Value.int .i64 q, .string v, .int .i64 g, .string p, .string b] = (recVs ⟨q, v, g, p, b⟩).toArray from rfl, List.getElem?_toArray]
      exact hj
    have hone : ∀ u ∈ recVs ⟨q, v, g, p, b⟩, u.oneCell' = true := by intro u hu; simp [recVs] at hu; rcases hu with rfl | rfl | rfl | rfl | rfl <;> rfl
    have hal : acc.length ≤ 1048576 := by omega
    have pack : ∀ v' w1, World.ownsRow w1 (w.heap.size + 6) 45 5 v' (acc.length + 1) (flatRec acc ++ recVs ⟨q, v, g, p, b⟩) → World.grownBy (A2.alloc (.cells #[.int .i64 q, .string v, .int .i64 g, .string p, .string b] 45)) w1 vv.ownBlock →
        ∃ q' cp', v' = .slice q' (acc.length + 1) cp' ∧ ownsRl w1 (w.heap.size + 6) v' (acc ++ [⟨q, v, g, p, b⟩]) ∧ (∀ j, j < w.heap.size + 6 → w1.heap[j]? = A2.heap[j]?) ∧ Below w.heap.size w w1 ∧ w.heap.size + 6 ≤ w1.heap.size ∧ Rounds w1 := by
      intro v' w1 hown' hgrow
      have hO : ownsRl w1 (w.heap.size + 6) v' (acc ++ [⟨q, v, g, p, b⟩]) := by
        unfold ownsRl
        rw [flatRec_append, List.length_append]
        exact hown'
      obtain ⟨q', cp', hv⟩ := ownsRl_shape hO
      have hg := (World.grownBy_alloc A2 (.cells #[.int .i64 q, .string v, .int .i64 g, .string p, .string b] 45) vv.ownBlock).trans hgrow
      have hne : ∀ j, j < w.heap.size + 6 → some j ≠ vv.ownBlock := fun j hj e => by have := (O2.base e.symm).1; omega
      refine ⟨q', cp', by rw [hv]; simp, hO, fun j hj => hg.block j (by omega) (hne j hj), B2.grown hg (by omega) (fun j hj => by have := (O2.base hj).1; omega), Nat.le_trans hA2 hg.size, ?_⟩
      exact ⟨Nat.lt_of_lt_of_le jR.1 hg.size, fun i hi => by
        have := jR.2 i hi
        rw [cell_in] at this ⊢
        rw [hg.block _ jR.1 (hne _ (by have := RO.out.1; omega))]; exact this⟩
    have hub : (u.length : Int) ≤ s.size := by omega
    have hk6 : w.heap.size + 6 ≤ (A2.alloc (.cells #[.int .i64 q, .string v, .int .i64 g, .string p, .string b] 45)).heap.size := by simp; omega
    clear hst i1 i2 i3 i4 i6 hr hRd G2 HRc hb hz e1 e2 e3 e4 B4 I0 RD0 RO4
    gi_wp2_with (gi_at_builtin; refine wpListIn_append_own _ rfl _ _ 63 rfl (w.heap.size + 6) 45 i0 (.agg (recV zeroR)) 5 64 Tryd.underlying63 hi0 hz0 hz1 hz2 rfl (by decide) vv acc.length (flatRec acc) rfl (World.ownsRow.alloc O2 _) ⟨A2.heap.size, 0, none⟩ 1 1 (recVs ⟨q, v, g, p, b⟩) rfl rfl hcell hone (by unfold maxLen; omega) (by omega) hk6 ?_; intro v' w1 hown' hgrow _; obtain ⟨q', cp', rfl, hO, hh, hB, hs1, hR1⟩ := pack _ _ hown' hgrow; have k1 := (hh _ (by omega)).trans j1; have k2 := (hh _ (by omega)).trans j2; have k4 := (hh _ (by omega)).trans j4; have m1 := cellOne k1; have m2 := cellOne k2; have m4 : w1.cell? ⟨w.heap.size + 1 + 1, 0, none⟩ = _ := cellOne k4; have f2 := free_of_heap k2; have f4 : ∀ i, w1.frozen? ⟨w.heap.size + 1 + 1, i, none⟩ = false := free_of_heap k4)
    rw [show (s.size : Int) - (u.length : Int) = ((s.size - u.length : Nat) : Int) from by omega]
    have GS1 := grown_setCell w1 (w.heap.size + 1) 0 (.slice q' (acc.length + 1) cp')
    have S1 : (w1.setCell ⟨w.heap.size + 1, 0, none⟩ (.slice q' (acc.length + 1) cp')).heap[w.heap.size + 1]? = some (.cells #[.slice q' (acc.length + 1) cp'] 63 (0, 0)) := heap_setCell (i := 0) k2 _
    have T1 := (GS1.block (w.heap.size + 2) (by omega) (by intro h; injection h with h; omega)).trans k4
    generalize w1.setCell ⟨w.heap.size + 1, 0, none⟩ (.slice q' (acc.length + 1) cp') = w2 at GS1 S1 T1 ⊢
    have GS2 := grown_setCell w2 (w.heap.size + 1 + 1) 0 (.int .i64 ((s.size - u.length : Nat) : Int))
    have T2 : (w2.setCell ⟨w.heap.size + 1 + 1, 0, none⟩ (.int .i64 ((s.size - u.length : Nat) : Int))).heap[w.heap.size + 2]? = some (.cells #[.int .i64 ((s.size - u.length : Nat) : Int)] 3 (0, 0)) := heap_setCell (i := 0) T1 _
    generalize w2.setCell ⟨w.heap.size + 1 + 1, 0, none⟩ (.int .i64 ((s.size - u.length : Nat) : Int)) = w3 at GS2 T2 ⊢
    have z2 := GS1.size
    have z3 := GS2.size
    have hW : ∀ j, j < w.heap.size + 6 → j ≠ w.heap.size + 1 → j ≠ w.heap.size + 2 → w3.heap[j]? = w1.heap[j]? := fun j h1 h2 h3 =>
      (GS2.block j (by omega) (by intro h; injection h with h; omega)).trans (GS1.block j (by omega) (by intro h; injection h with h; omega))
    refine ⟨(hW _ (by omega) (by omega) (by omega)).trans (hh _ (by omega)), (hW _ (by omega) (by omega) (by omega)).trans (hh _ (by omega)), ⟨(hW _ (by omega) (by omega) (by omega)).trans k1, ⟨_, (GS2.block _ (by omega) (by intro h; injection h with h; omega)).trans S1, ?_⟩, T2, ⟨by simp; omega, by omega⟩, ?_, by omega⟩, (hW _ (by omega) (by omega) (by omega)).trans ((hh _ (by omega)).trans jr), Rounds_grown (Rounds_grown hR1 GS1 (by have := RO.out.1; omega)) GS2 (by have := RO.out.1; omega)⟩
    · have O3 := (hO.kept GS1 (fun j hj e => by injection e with e; have := (hO.base hj).1; omega)).kept GS2 (fun j hj e => by injection e with e; have := (hO.base hj).1; omega)
      exact O3
    · exact (hB.grown GS1 (by omega) (by rintro _ ⟨⟩; omega)).grown GS2 (by omega) (by rintro _ ⟨⟩; omega)
  · intro acc t A hrun hst hi hk
    rw [e4] at hk ⊢
    gi_wp2
    obtain ⟨i1, ⟨vv, i2, i3⟩, i4, ⟨i5, i5b⟩, i6, i7⟩ := hi
    obtain ⟨q', cp', rfl⟩ := ownsRl_shape i3
    have c2 := cellOne i2
    have c4 : A.cell? ⟨w.heap.size + 1 + 1, 0, none⟩ = _ := cellOne i4
    have hl1 : w.heap.size + 1 < A.heap.size := by omega
    have hl2 : w.heap.size + 1 + 1 < A.heap.size := by omega
    have hS := Lib.hid (RunL.stop hrun hst)
    clear hrun hst e1 e2 e3 e4 B4 I0 RD0 RO4
    have hmix2 := hmix
    gi_region_o
    all_goals
      gi_wp2
      refine ⟨by simp, .inl ⟨_, _, rfl, run_takeDeferred (hk : A.drew.heap[w.heap.size + 4]? = _), ?_⟩⟩
      refine ⟨_, results_tmp2 rfl _ _ _, ?_⟩
      have GD : A.grownBy (A.drew.putObj (w.heap.size + 4) (.deferred none)) (some (w.heap.size + 4)) := (⟨rfl, rfl, rfl, Nat.le_refl _, fun _ _ _ => rfl⟩ : A.grownBy A.drew _).trans (grownBy_putObj' _ _ _)
      unfold AllPost
      rw [hS.out]
      exact ⟨_, rfl, ownsRl_low (i3.kept GD (fun j hj e => by injection e with e; have := (i3.base hj).1; omega)) (by omega), (show acc.length ≤ s.size by omega), i6.grown GD (by omega) (by rintro _ ⟨⟩; omega)⟩
end Go.Proofs.YtjjadgcpmfmlfaaDoor
namespace Go.Proofs.YtjjadgcpmfmlfaaDoor
theorem writeL_size {r : Rec} (h : fitB r = true) : 16 ≤ (⟨(writeL mkB r).toArray⟩ : ByteArray).size ∧ (⟨(writeL mkB r).toArray⟩ : ByteArray).size ≤ 1000 := by
  have hf := fits_of h
  unfold fits at hf
  have := mkS_size (writeL mkB r)
  unfold mkS at this
  rw [this]
  unfold writeL
  simp only [List.length_append, mkB_length, List.length_cons, List.length_nil, bs_length]
  omega
end Go.Proofs.YtjjadgcpmfmlfaaDoor
namespace Go.Proofs.YtjjadgcpmfmlfaaDoor
open Go.RowKit Go.Shelf

def longB (r : Rec) : Bool := decide ((60 : Int) < r.subject.size) || decide ((60 : Int) < r.prev.size) || decide ((450 : Int) < r.body.size)
set_option maxRecDepth 100000 in
set_option maxHeartbeats 1000000 in
theorem longrec_any (r : Rec) (w : World) : Calls Tryd.prog 41 #[.agg (recV r)] w (Res (longB r) w) := by
  obtain ⟨q, u, g, p, b⟩ := r
  unfold recV longB
  dsimp only
  have L1 := fun w => long_any u w
  have L2 := fun w => long_any p w
  generalize decide ((60 : Int) < u.size) = l1 at L1 ⊢
  generalize decide ((60 : Int) < p.size) = l2 at L2 ⊢
  go_enter Tryd.func41, Tryd.ntmps41
  go_wp2_with fail
  have H1 := heap_alloc_at w (.cells #[.int .i64 q, .string u, .int .i64 g, .string p, .string b] 45)
  have X1 := Lib.hid (ext_alloc (.cells #[.int .i64 q, .string u, .int .i64 g, .string p, .string b] 45) (ext_refl w))
  generalize w.alloc (.cells #[.int .i64 q, .string u, .int .i64 g, .string p, .string b] 45) = w1 at H1 X1 ⊢
  obtain ⟨d0, d1, d2, d3, d4⟩ := rec_cells (r := ⟨q, u, g, p, b⟩) H1
  dsimp only at d0 d1 d2 d3 d4
  clear H1
  refine (L1 _).mono ?_
  rintro _ _ ⟨rfl, rfl⟩
  clear L1
  cases l1 with
  | true =>
    go_wp2_with fail
    go_ret
    exact ⟨by simp, X1.out⟩
  | false =>
    go_wp2_with fail
    refine (L2 _).mono ?_
    rintro _ _ ⟨rfl, rfl⟩
    clear L2
    cases l2 with
    | true =>
      go_wp2_with fail
      go_ret
      exact ⟨by simp, X1.out⟩
    | false =>
      by_cases h3 : (450 : Int) < b.size
      all_goals
        go_wp2_with fail
        go_ret
        exact ⟨by simp [h3], X1.out⟩
theorem recsAt_cells {w : World} {q : Option Addr} {l : List Rec} {j : Nat} {x : Rec} (h : recsAt w q l) (hj : l[j]? = some x) : ∃ g o, q = some ⟨g, o, none⟩ ∧ w.cell? ⟨g, o + j * 5, none⟩ = some (.int .i64 x.seq) ∧ w.cell? ⟨g, o + j * 5 + 1, none⟩ = some (.string x.subject) ∧ w.cell? ⟨g, o + j * 5 + 2, none⟩ = some (.int .i64 x.gen) ∧ w.cell? ⟨g, o + j * 5 + 3, none⟩ = some (.string x.prev) ∧ w.cell? ⟨g, o + j * 5 + 4, none⟩ = some (.string x.body) ∧ g < w.heap.size := by
  rcases h with rfl | ⟨g, o, hq, hg, hc⟩
  · simp at hj
  · exact ⟨g, o, hq, hc j x hj 0 _ rfl, hc j x hj 1 _ rfl, hc j x hj 2 _ rfl, hc j x hj 3 _ rfl, hc j x hj 4 _ rfl, hg⟩
set_option maxRecDepth 100000 in
set_option maxHeartbeats 4000000 in
/-- sameRecords, where they are the same. -/
theorem same_any (q1 q2 : Option Addr) (c1 c2 : Nat) (l : List Rec) (w : World) (hl : l.length ≤ 1048576) (h1 : recsAt w q1 l) (h2 : recsAt w q2 l) :
    Calls Tryd.prog 47 #[.slice q1 l.length c1, .slice q2 l.length c2] w (Res true w) := by
  have A1 := Lib.hid h1
  have A2 := Lib.hid h2
  clear h1 h2
  go_enter Tryd.func47, Tryd.ntmps47
  go_wp2_with fail
  go_loopw [5] (fun iv wr => ∃ k : Nat, k ≤ l.length ∧ iv = .int .i64 k ∧ Hid (∃ x, wr = ext w x)) (fun iv _ => l.length - (intOf iv).toNat)
  case atStart => exact ⟨0, Nat.zero_le _, rfl, Lib.hid (ext_refl w)⟩
  case round =>
    obtain ⟨k, hk, rfl, XX⟩ := hrel
    by_cases hlt : k < l.length
    · have hx := List.getElem?_eq_getElem hlt
      have hb := ext_iff.1 XX.out
      obtain ⟨g1, o1, rfl, a0, a1, a2, a3, a4, lt1⟩ := recsAt_cells (recsAt_of A1.out hb.block hb.size) hx
      obtain ⟨g2, o2, rfl, b0, b1, b2, b3, b4, lt2⟩ := recsAt_cells (recsAt_of A2.out hb.block hb.size) hx
      generalize l[k] = x at a0 a1 a2 a3 a4 b0 b1 b2 b3 b4
      obtain ⟨q, u, g, p, b⟩ := x
      dsimp only at a0 a1 a2 a3 a4 b0 b1 b2 b3 b4
      have hlt' : (k : Int) < l.length := by omega
      clear hx hb
      go_wp2_with fail
      refine wp_region_ext (by kernel_rfl) (by kernel_rfl) ?_
      repeat (go_big_quiet_step (fail))
      refine wpQuiet_nil ?_
      rintro _ ⟨x, rfl⟩
      have X2 := Lib.hid (ext_trans XX.out ⟨x, rfl⟩)
      generalize ext wr x = w2 at X2 ⊢
      clear a0 a1 a2 a3 a4 b0 b1 b2 b3 b4 lt1 lt2
      go_wp2_with fail
      go_roundw
      case rel => exact ⟨k + 1, hlt, by go_num, X2⟩
      case measure => simp [intOf]; omega
    · obtain rfl : k = l.length := by omega
      go_wp2_with fail
      go_ret
      exact ⟨rfl, XX.out⟩
end Go.Proofs.YtjjadgcpmfmlfaaDoor
namespace Go.Proofs.YtjjadgcpmfmlfaaDoor
open Go.RowKit Go.Shelf

theorem strs_at {w : World} {b : Nat} {s a : ByteArray} {t : TypeId} {f : Nat × Nat} (h : w.heap[b]? = some (.cells #[.string s, .string a] t f)) : w.cell? ⟨b, 0, none⟩ = some (.string s) ∧ w.cell? ⟨b, 1, none⟩ = some (.string a) := by
  constructor <;> (rw [cell_in, h]; rfl)
set_option maxRecDepth 100000 in
set_option maxHeartbeats 8000000 in
theorem wwrites_any (x : Rec) (s : ByteArray) (w : World) (hR : Rounds w) (hE : ErrT w) :
    Calls Tryd.prog 8 #[.agg (recV x), .string s] w (Res true w) := by
  have RO := Lib.hid hR
  have ET := Lib.hid hE
  clear hR hE
  have LE := fun w => longrec_any x w
  cases hl : longB x with
  | true =>
    rw [hl] at LE
    clear hl
    unfold recV at LE ⊢
    go_enter Tryd.func8, Tryd.ntmps8
    go_wp2_with fail
    refine (LE _).mono ?_
    rintro _ w2 ⟨rfl, hx⟩
    have X2 := Lib.hid (ext_trans (ext_alloc _ (ext_refl w)) hx)
    clear hx
    go_wp2_with fail
    go_ret
    exact ⟨rfl, X2.out⟩
  | false =>
    rw [hl] at LE
    have hz : x.subject.size ≤ 60 ∧ x.prev.size ≤ 60 ∧ x.body.size ≤ 450 := by
      unfold longB at hl
      simp only [Bool.or_eq_false_iff, decide_eq_false_iff_not] at hl
      omega
    clear hl
    have RW := fun rb w h => rwrite_any rb x w (by omega) h
    have WW := fun w h => wwrite_any x w (by omega) h
    have RR := fun w => rrec_any x w (by omega)
    have WR := fun w => wright_any x w (by omega)
    have TS := Lib.hid (fun h => (writeL_size (r := x) h).2)
    obtain ⟨A, hA⟩ : ∃ A : ByteArray, A = if fitB x = true then ⟨(writeL mkB x).toArray⟩ else ⟨#[]⟩ := ⟨_, rfl⟩
    have AS : Hid (A.size ≤ 1048576) := Lib.hid (by
      rw [hA]
      split
      · rename_i h; exact Nat.le_trans (TS.out h) (by decide)
      · decide)
    have e1 : (if fitB x = true then Value.tuple #[.string ⟨(writeL mkB x).toArray⟩, .int .i64 0] else .tuple #[.string ⟨#[]⟩, .int .i64 1]) = .tuple #[.string A, .int .i64 (if fitB x = true then 0 else 1)] := by
      rw [hA]; split <;> rfl
    have e2 : (if fitB x = true then Value.tuple #[.string ⟨(writeL mkB x).toArray⟩, .nilIface] else .tuple #[.string ⟨#[]⟩, errV 1]) = .tuple #[.string A, errOf (if fitB x = true then 0 else 1)] := by
      rw [hA]; split <;> rfl
    rw [e1] at RW
    rw [e2] at WW
    clear e1 e2 TS hA
    generalize (if fitB x = true then (0 : Int) else 1) = c at RW WW
    generalize fitB x = F at RR WR
    have NN := Lib.hid (errOf_num c)
    have NB := fun w h => bare_any (errOf c) (errOf_is c) c w h
    rw [NN.out] at NB
    have hAA : (!(A.toList == A.toList)) = false := by simp
    have hFF : (!(F == F)) = false := by simp
    obtain ⟨q, u, g, p, b⟩ := x
    clear hz
    unfold recV at LE RW WW RR WR ⊢
    dsimp only at LE RW WW RR WR ⊢
    go_enter Tryd.func8, Tryd.ntmps8
    go_wp2_with fail
    have H1 := Lib.hid (heap_alloc_at w (.cells #[.int .i64 q, .string u, .int .i64 g, .string p, .string b] 45))
    have X1 := Lib.hid (ext_alloc (.cells #[.int .i64 q, .string u, .int .i64 g, .string p, .string b] 45) (ext_refl w))
    generalize w.alloc (.cells #[.int .i64 q, .string u, .int .i64 g, .string p, .string b] 45) = w1 at H1 X1 ⊢
    refine (LE _).mono ?_
    rintro _ w2 ⟨rfl, hx⟩
    have H2 := Lib.hid (((ext_iff.1 hx).block _ (lt_of_heap H1.out)).trans H1.out)
    have X2 := Lib.hid (ext_trans X1.out hx)
    clear hx H1 X1 LE
    cases h4 : decide ((1500 : Int) < s.size) with
    | true =>
      go_wp2_with fail
      go_ret
      exact ⟨rfl, X2.out⟩
    | false =>
      have HS := Lib.hid (show s.size ≤ 1048576 by have := of_decide_eq_false h4; omega)
      go_wp2_with fail
      refine (new_any _).mono ?_
      rintro _ w3 ⟨rb, rfl, hr, -, hx⟩
      have H3 := Lib.hid (((ext_iff.1 hx).block _ (lt_of_heap H2.out)).trans H2.out)
      have X3 := Lib.hid (ext_trans X2.out hx)
      have I3 := Lib.hid hr
      clear hx hr H2 X2 h4
      obtain ⟨c0, c1, c2, c3, c4⟩ := rec_cells (r := ⟨q, u, g, p, b⟩) H3.out
      dsimp only at c0 c1 c2 c3 c4
      go_wp2_with fail
      refine (RW rb _ I3.out).mono ?_
      rintro _ w4 ⟨rfl, hx⟩
      have H4 := Lib.hid (((ext_iff.1 hx).block _ (lt_of_heap H3.out)).trans H3.out)
      have X4 := Lib.hid (ext_trans X3.out hx)
      have I4 := Lib.hid (isR_ext I3.out hx)
      clear hx H3 X3 I3 RW c0 c1 c2 c3 c4
      obtain ⟨c0, c1, c2, c3, c4⟩ := rec_cells (r := ⟨q, u, g, p, b⟩) H4.out
      dsimp only at c0 c1 c2 c3 c4
      go_wp2_with fail
      refine (WW _ (Rounds_ext RO.out X4.out)).mono ?_
      rintro _ w5 ⟨rfl, hx⟩
      have H5 := Lib.hid (((ext_iff.1 hx).block _ (lt_of_heap H4.out)).trans H4.out)
      have X5 := Lib.hid (ext_trans X4.out hx)
      have I5 := Lib.hid (isR_ext I4.out hx)
      clear hx H4 X4 I4 WW c0 c1 c2 c3 c4
      obtain ⟨c0, c1, c2, c3, c4⟩ := rec_cells (r := ⟨q, u, g, p, b⟩) H5.out
      dsimp only at c0 c1 c2 c3 c4
      have lw5 := lt_of_heap H5.out
      go_wp2_with fail
      refine wp_region_ext (by kernel_rfl) (by kernel_rfl) ?_
      repeat (go_big_quiet_step (first | (go_at_call 16; refine (NB _ (ErrT_ext ET.out (ext_trans X5.out ⟨_, rfl⟩))).mono ?_; rintro _ _ ⟨rfl, hx⟩; exact ⟨rfl, ext_trans ⟨_, rfl⟩ hx⟩) | (go_at_call 35; refine (WR _).mono ?_; rintro _ _ ⟨rfl, hx⟩; exact ⟨rfl, ext_trans ⟨_, rfl⟩ hx⟩) | (go_at_call 43; refine (RR _).mono ?_; rintro _ _ ⟨rfl, hx⟩; exact ⟨rfl, ext_trans ⟨_, rfl⟩ hx⟩)))
      refine wpQuiet_nil ?_
      rintro _ ⟨y, rfl⟩
      have X6 := Lib.hid (ext_trans X5.out ⟨y, rfl⟩)
      have I6 := Lib.hid (isR_ext I5.out ⟨y, rfl⟩)
      generalize ext w5 y = w6 at X6 I6 ⊢
      clear H5 X5 I5 c0 c1 c2 c3 c4 lw5 hAA hFF NB NN RR WR
      go_wp2_with fail
      have L7 := Lib.hid (heap_alloc_at w6 (.cells #[.string s, .string A] 9))
      have X7 := Lib.hid (ext_alloc (.cells #[.string s, .string A] 9) X6.out)
      have I7 := Lib.hid (isR_alloc I6.out (.cells #[.string s, .string A] 9))
      clear X6 I6
      generalize hlb : w6.heap.size = lb at L7 ⊢
      clear hlb
      generalize w6.alloc (.cells #[.string s, .string A] 9) = w7 at L7 X7 I7 ⊢
      go_loopw [59] (fun iv wr => ∃ k : Nat, k ≤ 2 ∧ iv = .int .i64 k ∧ Hid (∃ y, wr = ext w7 y)) (fun iv _ => 2 - (intOf iv).toNat)
      case atStart => exact ⟨0, by decide, rfl, Lib.hid (ext_refl w7)⟩
      case round =>
        obtain ⟨k, hk, rfl, XX⟩ := hrel
        have LB := ((ext_iff.1 XX.out).block _ (lt_of_heap L7.out)).trans L7.out
        have I8 := Lib.hid (isR_ext I7.out XX.out)
        have X8 := Lib.hid (ext_trans X7.out XX.out)
        by_cases hlt : k < 2
        · have hT : ∃ T : ByteArray, T.size ≤ 1048576 ∧ wr.cell? ⟨lb, k, none⟩ = some (.string T) := by
            obtain ⟨a0, a1⟩ := strs_at LB
            rcases (show k = 0 ∨ k = 1 by omega) with rfl | rfl
            · exact ⟨s, HS.out, a0⟩
            · exact ⟨A, AS.out, a1⟩
          obtain ⟨T, hT, hc⟩ := hT
          have hlt' : (k : Int) < 2 := by omega
          have RP := rparse_any rb T wr hT I8.out
          have PA := fun w h => wparse_any T w hT h
          have e1 : answR T = .tuple #[.agg (recV (if parseOK T = true then parseR T else zeroR)), .int .i64 (if parseOK T = true then 0 else 3)] := by unfold answR; split <;> rfl
          have e2 : answP T = .tuple #[.agg (recV (if parseOK T = true then parseR T else zeroR)), errOf (if parseOK T = true then 0 else 3)] := by unfold answP; split <;> rfl
          rw [e1] at RP
          rw [e2] at PA
          clear e1 e2 LB hT
          generalize (if parseOK T = true then (0 : Int) else 3) = c' at RP PA
          generalize (if parseOK T = true then parseR T else zeroR) = Fr at RP PA
          obtain ⟨q', u', g', p', b'⟩ := Fr
          unfold recV at RP PA
          dsimp only at RP PA
          have NN := Lib.hid (errOf_num c')
          have NB := fun w h => bare_any (errOf c') (errOf_is c') c' w h
          rw [NN.out] at NB
          go_wp2_with fail
          refine RP.mono ?_
          rintro _ w10 ⟨rfl, hx⟩
          have X10 := Lib.hid (ext_trans X8.out hx)
          have Y10 := Lib.hid (ext_trans XX.out hx)
          clear hx RP hc X8 XX I8
          go_wp2_with fail
          have H11 := Lib.hid (heap_alloc_at w10 (.cells #[.int .i64 q', .string u', .int .i64 g', .string p', .string b'] 45))
          have X11 := Lib.hid (ext_alloc (.cells #[.int .i64 q', .string u', .int .i64 g', .string p', .string b'] 45) X10.out)
          have Y11 := Lib.hid (ext_alloc (.cells #[.int .i64 q', .string u', .int .i64 g', .string p', .string b'] 45) Y10.out)
          generalize hb10 : w10.heap.size = b10 at H11 ⊢
          clear hb10
          generalize w10.alloc (.cells #[.int .i64 q', .string u', .int .i64 g', .string p', .string b'] 45) = w11 at H11 X11 Y11 ⊢
          refine (PA _ (Rounds_ext RO.out X11.out)).mono ?_
          rintro _ w12 ⟨rfl, hx⟩
          have H12 := Lib.hid (((ext_iff.1 hx).block _ (lt_of_heap H11.out)).trans H11.out)
          have X12 := Lib.hid (ext_trans X11.out hx)
          have Y12 := Lib.hid (ext_trans Y11.out hx)
          clear hx PA X10 Y10 H11 X11 Y11
          go_wp2_with fail
          have H13 := Lib.hid ((Below.heap_alloc w12 (.cells #[.int .i64 q', .string u', .int .i64 g', .string p', .string b'] 45) _ (lt_of_heap H12.out)).trans H12.out)
          have G13 := Lib.hid (heap_alloc_at w12 (.cells #[.int .i64 q', .string u', .int .i64 g', .string p', .string b'] 45))
          have X13 := Lib.hid (ext_alloc (.cells #[.int .i64 q', .string u', .int .i64 g', .string p', .string b'] 45) X12.out)
          have Y13 := Lib.hid (ext_alloc (.cells #[.int .i64 q', .string u', .int .i64 g', .string p', .string b'] 45) Y12.out)
          generalize hb12 : w12.heap.size = b12 at G13 ⊢
          clear hb12
          generalize w12.alloc (.cells #[.int .i64 q', .string u', .int .i64 g', .string p', .string b'] 45) = w13 at H13 G13 X13 Y13 ⊢
          refine (NB _ (ErrT_ext ET.out X13.out)).mono ?_
          rintro _ w14 ⟨rfl, hx⟩
          have H14 := Lib.hid (((ext_iff.1 hx).block _ (lt_of_heap H13.out)).trans H13.out)
          have G14 := Lib.hid (((ext_iff.1 hx).block _ (lt_of_heap G13.out)).trans G13.out)
          have Y14 := Lib.hid (ext_trans Y13.out hx)
          clear hx NB NN H12 X12 Y12 H13 G13 X13 Y13
          obtain ⟨c0, c1, c2, c3, c4⟩ := rec_cells (r := ⟨q', u', g', p', b'⟩) H14.out
          obtain ⟨d0, d1, d2, d3, d4⟩ := rec_cells (r := ⟨q', u', g', p', b'⟩) G14.out
          dsimp only at c0 c1 c2 c3 c4 d0 d1 d2 d3 d4
          go_wp2_with fail
          go_roundw
          case rel => exact ⟨k + 1, by omega, by go_num, Y14⟩
          case measure => simp [intOf]; omega
        · obtain rfl : k = 2 := by omega
          have RA := rall_any rb s wr HS.out I8.out
          unfold AllPost at RA
          go_wp2_with fail
          refine RA.mono ?_
          rintro _ w20 ⟨v1, rfl, o1, l1, B1⟩
          have X20 := Lib.hid (ext_trans X8.out (ext_of B1))
          obtain ⟨q1, cp1, rfl⟩ := ownsRl_shape o1
          have R1 := Lib.hid (recsAt_owned o1)
          have WA := wall_any s w20 HS.out (Rounds_ext RO.out X20.out)
          unfold AllPost at WA
          clear RA o1 B1 X8 I8 XX LB
          go_wp2_with fail
          refine WA.mono ?_
          rintro _ w21 ⟨v2, rfl, o2, l2, B2⟩
          have X21 := Lib.hid (ext_trans X20.out (ext_of B2))
          obtain ⟨q2, cp2, rfl⟩ := ownsRl_shape o2
          have SA := same_any q2 q1 cp2 cp1 (allL (bs s)).1 w21 (Nat.le_trans l1 HS.out) (recsAt_owned o2) (recsAt_of R1.out B2.block B2.size)
          clear WA o2 B2 X20 R1 l1 l2
          generalize (allL (bs s)).1 = L at SA ⊢
          generalize s.size - (allL (bs s)).2.length = n at ⊢
          go_wp2_with fail
          refine SA.mono ?_
          rintro _ w22 ⟨rfl, hx⟩
          have X22 := Lib.hid (ext_trans X21.out hx)
          clear hx SA X21
          go_wp2_with fail
          go_ret
          exact ⟨by simp, X22.out⟩
end Go.Proofs.YtjjadgcpmfmlfaaDoor
