/- oublietteref.Parse: the library's calls; the pieces. -/
import Derived.Test.YtjmbobjifojoiaaDoorProg
import Derived.Test.YtjmbobjifojoiaaDoorShelfR
import Derived.Test.YtjmbobjifojoiaaDoorRefEvP
import Derived.Test.YtjmbobjifojoiaaDoorEvParse
import Derived.Test.YtjmbobjifojoiaaDoorOkV
import Derived.Maps.AppendAt
import Derived.Maps.Own
import Derived.Maps.Views
namespace Go.Proofs.YtjmbobjifojoiaaDoor
open Go.RowKit

/-- All pieces. -/
def allB (s : ByteArray) : List ByteArray := Lib.splitB ⟨#[32]⟩ 0 (Lib.countB s ⟨#[32]⟩) s
theorem allB_is (s : ByteArray) : (allB s).map txt = Lib.splitK [32] 0 ((txt s).count 32) (txt s) := by
  have h := Lib.splitB_data ⟨#[32]⟩ 0 (Lib.countB s ⟨#[32]⟩) s
  have e : Lib.countB s ⟨#[32]⟩ = (txt s).count 32 := Lib.count_one 32 (txt s)
  rw [e] at h
  unfold allB
  rw [e]; exact h
theorem allB_len (s : ByteArray) : (allB s).length = Lib.countB s ⟨#[32]⟩ + 1 := Lib.splitB_all ⟨#[32]⟩ (by decide) 0 _ s rfl
theorem allB_small (s : ByteArray) : (allB s).length ≤ s.size + 1 := by
  rw [allB_len]
  have := Lib.countB_le ⟨#[32]⟩ (by decide) s.size s (Nat.le_refl _)
  omega
theorem splitall_any (s : ByteArray) (w : World) (hs : s.size ≤ 1048576) (hM : MaxL w) :
    Calls Tryd.prog 87 #[.string s, .string ⟨#[32]⟩] w fun e w' =>
      e = .returned (.slice (some ⟨w.heap.size, 0, none⟩) (allB s).length (allB s).length) ∧ w' = w.alloc (.cells ((allB s).map Value.string).toArray 9) := by
  obtain ⟨m, hm⟩ := hM.2
  rw [allB_len]
  exact Tryd.strings_Split s ⟨#[32]⟩ m w (by omega) hm (by decide)
theorem infoS : (Tryd.prog.info? 9).map (fun i => (i.zero, i.size, i.bytes)) = some (some (.string ⟨#[]⟩), 1, 16) := by kernel_rfl
/-- Texts that the call's own slice holds. -/
def ownsT (w : World) (base : Nat) (v : Value) (l : List ByteArray) : Prop := w.ownsRow base 9 1 v l.length (l.map Value.string)
theorem ownsT_row {w : World} {base g : Nat} {l : List ByteArray} (h : w.heap[g]? = some (.cells (l.map Value.string).toArray 9 (0, 0))) (hb : base ≤ g) (hl : l.length ≤ maxLen) : ownsT w base (.slice (some ⟨g, 0, none⟩) l.length l.length) l :=
  ⟨by simp, .inr ⟨g, l.length, (l.map Value.string).toArray, rfl, hb, h, Nat.le_refl _, hl, by simp, by rw [List.take_of_length_le (by simp)]⟩⟩
theorem ownsT_form {w : World} {base : Nat} {v : Value} {l : List ByteArray} (h : ownsT w base v l) (hl : l ≠ []) :
    ∃ g cap, v = .slice (some ⟨g, 0, none⟩) l.length cap ∧ base ≤ g ∧ g < w.heap.size ∧ ∀ i (hi : i < l.length), w.cell? ⟨g, i, none⟩ = some (.string l[i]) := by
  obtain ⟨_, ⟨rfl, h0⟩ | ⟨g, cap, cur, rfl, hb, hh, hn, hc, hsz, hx⟩⟩ := h
  · exact absurd (List.length_eq_zero_iff.1 h0) hl
  · refine ⟨g, cap, rfl, hb, lt_of_heap hh, fun i hi => ?_⟩
    rw [cell_in, hh]
    have h1 : (cur.toList.take (l.length * 1))[i]? = (l.map Value.string)[i]? := by rw [hx]
    rw [List.getElem?_take_of_lt (by omega)] at h1
    simp only [List.getElem?_map, List.getElem?_eq_getElem hi, Option.map_some, Array.getElem?_toList] at h1
    simp [cellIn, h1]
section
variable {ops : Array Oper} {rest : List Oper} {o : Oper} {a : Act} {w : World} {Q : Exit → Act → World → Prop}
/-- 'append(v, a, b, c, d)' of four texts. -/
theorem append_txt4 (base : Nat) (v : Value) (l : List ByteArray) (x0 x1 x2 x3 : ByteArray) (s x : Operand) (c : Nat)
    (ho : o.op = .call { callee := .builtin .append, args := #[s, x], argTypes := #[34, 34] }) (hgd : o.guard = none) (hs : a.eval s = v)
    (hx : a.eval x = .slice (some ⟨w.heap.size, 0, none⟩) 4 c) (hown : ownsT w base v l) (hlen : l.length ≤ 1099511627776) (hbase : base ≤ w.heap.size)
    (h : ∀ v' w', ownsT w' base v' (l ++ [x0, x1, x2, x3]) → w.grownBy w' v.ownBlock → wpList Tryd.prog ops Q rest (a.put o.dst v') w') : wpList Tryd.prog ops Q (o :: rest) a (w.alloc (.cells #[.string x0, .string x1, .string x2, .string x3] 9)) := by
  obtain ⟨i0, hi, hz0, hz1, hz2⟩ := info_parts infoS
  refine wpList_append_own_at _ hgd s x 34 ho base 9 i0 (.string ⟨#[]⟩) 1 16 Tryd.underlying34 hi hz0 hz1 hz2 rfl (by decide) v l.length (l.map Value.string) hs (World.ownsRow.alloc hown _)
    ⟨w.heap.size, 0, none⟩ 4 c [.string x0, .string x1, .string x2, .string x3] hx rfl ?_ (by intro u hu; simp at hu; rcases hu with rfl | rfl | rfl | rfl <;> rfl) (by unfold maxLen; omega) (by omega) (by simp; omega) ?_
  · intro j u hj
    have hadd : (⟨w.heap.size, 0, none⟩ : Addr).add j = ⟨w.heap.size, j, none⟩ := by unfold Addr.add; split <;> simp_all
    rw [hadd, World.cell?_alloc_new, show #[Value.string x0, .string x1, .string x2, .string x3] = [Value.string x0, .string x1, .string x2, .string x3].toArray from rfl, List.getElem?_toArray]
    exact hj
  · intro v' w' h1 h2 _ _
    exact h v' w' (by unfold ownsT; rw [List.map_append, List.length_append]; exact h1) ((World.grownBy_alloc w _ _).trans h2)
end


/-! ### The map of words -/
theorem lawS : Maps.Keyed Tryd.prog 9 := Maps.string_keyed Tryd.underlying9
theorem zeroI (w : World) : (zeroValue 3).run Tryd.prog w = .ok (.int .i64 0) w := by kernel_rfl
/-- What is laid so far says of a word. -/
def valOf (L : Nat → Bool) (t : List UInt8) : Int :=
  if t = [112, 117, 116] then (if L 1 = true then 1 else 0) else if t = [100, 101, 108] then (if L 2 = true then 2 else 0) else if t = [103, 111, 110, 101] then (if L 3 = true then 3 else 0) else 0
def cntOf (L : Nat → Bool) : Nat := (if L 1 = true then 1 else 0) + (if L 2 = true then 1 else 0) + (if L 3 = true then 1 else 0)
def MapOK (L : Nat → Bool) (v : Value) (bd : Nat) (w : World) : Prop :=
  ∃ b D, v = .map (some b) ∧ bd ≤ b ∧ w.ownsMap Tryd.prog 9 (plainElem (H := Unit) Tryd.prog 3) b (cntOf L) D ∧ Maps.IsMap D ∧ ∀ t : List UInt8, D.atKey (.string t) (.lit (.int .i64 0)) = .lit (.int .i64 (valOf L t))
theorem cnt_le (L : Nat → Bool) : cntOf L ≤ 3 := by unfold cntOf; split <;> split <;> split <;> omega
theorem MapOK_made {L : Nat → Bool} (h : L 1 = false ∧ L 2 = false ∧ L 3 = false) {bd : Nat} {w : World} (hb : bd ≤ w.heap.size) : MapOK L (.map (some w.heap.size)) bd (w.alloc (.map #[] 0)) := by
  obtain ⟨h1, h2, h3⟩ := h
  refine ⟨w.heap.size, .map [], rfl, hb, (World.ownsMap_made w _ _ _).mono (Nat.zero_le _), Maps.isMap_empty, ?_⟩
  intro t
  have : valOf L t = 0 := by simp [valOf, h1, h2, h3]
  rw [this]; rfl
theorem MapOK_kept {L : Nat → Bool} {v : Value} {bd : Nat} {w w' : World} (h : MapOK L v bd w) (hg : w.grownBy w' none) : MapOK L v bd w' := by
  obtain ⟨b, D, h1, h2, h3, h4⟩ := h
  exact ⟨b, D, h1, h2, h3.kept hg (by simp), h4⟩
theorem MapOK_far {L : Nat → Bool} {v : Value} {bd p : Nat} {w w' : World} {c : Array Value} {t : TypeId} {f : Nat × Nat} (h : MapOK L v bd w) (hp : w.heap[p]? = some (.cells c t f)) (hg : w.grownBy w' (some p)) : MapOK L v bd w' := by
  obtain ⟨b, D, h1, h2, h3, h4⟩ := h
  refine ⟨b, D, h1, h2, h3.kept hg ?_, h4⟩
  intro e
  injection e with e
  subst e
  obtain ⟨es, ck, hb, _⟩ := h3
  rw [hb] at hp
  cases hp
theorem MapOK_same {L L' : Nat → Bool} {v : Value} {bd : Nat} {w : World} (h : MapOK L v bd w) (h1 : L' 1 = L 1) (h2 : L' 2 = L 2) (h3 : L' 3 = L 3) : MapOK L' v bd w := by
  have e1 : cntOf L' = cntOf L := by unfold cntOf; rw [h1, h2, h3]
  have e2 : valOf L' = valOf L := by funext t; unfold valOf; rw [h1, h2, h3]
  unfold MapOK
  rw [e1, e2]; exact h
theorem MapOK_put {L L' : Nat → Bool} {v : Value} {bd : Nat} {w : World} (h : MapOK L v bd w) (key : ByteArray) (hk : key.size ≤ 10) (c : Int) (hc : (Lit.int .i64 c).wf = true) (hcnt : cntOf L + 1 ≤ cntOf L')
    (h1 : valOf L' key.data.toList = c) (h2 : ∀ t, t ≠ key.data.toList → valOf L' t = valOf L t) :
    ∃ b w', v = .map (some b) ∧ bd ≤ b ∧ (∃ es k, w.heap[b]? = some (.map es k)) ∧ (Instr.mapUpdate 130 v (.string key) (.int .i64 c)).run Tryd.prog w = .ok () w' ∧ MapOK L' v bd w' ∧ w.grownBy w' (some b) := by
  obtain ⟨b, D, rfl, hb, hown, hD, hat⟩ := h
  have hsz : cntOf L < maxLen := Nat.lt_of_le_of_lt (cnt_le L) (by unfold maxLen; omega)
  obtain ⟨w', hrun, hown', hg⟩ := hown.update (t := 130) (e := 3) (key := .string key) (val := .int .i64 c) (kl := .string key.data.toList) (d := .lit (.int .i64 c)) (ps := []) lawS Tryd.underlying130 hsz (WideMaps.keyOf_string_mk Tryd.underlying9 (by unfold maxLen; omega)) (plainElem_int Tryd.underlying3 hc)
  obtain ⟨es, clock, hbl, _⟩ := hown
  refine ⟨b, w', rfl, hb, ⟨es, clock, hbl⟩, hrun, ⟨b, D.put (.string key.data.toList) (.lit (.int .i64 c)), rfl, hb, hown'.mono hcnt, hD.put _ _, ?_⟩, hg⟩
  intro t
  by_cases ht : t = key.data.toList
  · subst ht
    rw [Maps.atKey_put_same hD (by trivial), h1]
  · rw [Maps.atKey_put_other (by intro e; injection e with e; exact ht e), hat, h2 t ht]
theorem MapOK_look {L : Nat → Bool} {v : Value} {bd : Nat} {w : World} (h : MapOK L v bd w) (h1 : L 1 = true) (h2 : L 2 = true) (h3 : L 3 = true) (key : ByteArray) (hk : key.size ≤ maxLen) :
    (Instr.lookup 130 v (.string key) false).run Tryd.prog w = .ok (.int .i64 (kindOf (txt key))) w := by
  obtain ⟨b, D, rfl, hb, hown, hD, hat⟩ := h
  obtain ⟨c, hrun, hc, _⟩ := hown.lookup_int (t := 130) (e := 3) (key := .string key) (kl := .string key.data.toList) lawS Tryd.underlying130 Tryd.underlying3 (zeroI w) (WideMaps.keyOf_string_mk Tryd.underlying9 hk)
  rw [hat] at hc
  have e : valOf L (txt key) = kindOf (txt key) := by unfold valOf kindOf; simp only [h1, h2, h3, if_true]
  have e2 : c = kindOf (txt key) := by
    rw [← e]
    have : (DataW.lit (H := Unit) (.int .i64 (valOf L (txt key)))) = .lit (.int .i64 c) := hc
    simp only [DataW.lit.injEq, Lit.int.injEq, true_and] at this
    exact this.symm
  rw [hrun, e2]
theorem val_put {L L' : Nat → Bool} (h : L' = fun k => if k = 1 then true else L k) : valOf L' [112, 117, 116] = 1 ∧ ∀ t, t ≠ [112, 117, 116] → valOf L' t = valOf L t := by
  subst h
  refine ⟨by simp [valOf], fun t ht => by simp [valOf, ht]⟩
theorem val_del {L L' : Nat → Bool} (h : L' = fun k => if k = 2 then true else L k) : valOf L' [100, 101, 108] = 2 ∧ ∀ t, t ≠ [100, 101, 108] → valOf L' t = valOf L t := by
  subst h
  refine ⟨by simp [valOf], fun t ht => by simp [valOf, ht]⟩
theorem val_gone {L L' : Nat → Bool} (h : L' = fun k => if k = 3 then true else L k) : valOf L' [103, 111, 110, 101] = 3 ∧ ∀ t, t ≠ [103, 111, 110, 101] → valOf L' t = valOf L t := by
  subst h
  refine ⟨by simp [valOf], fun t ht => by simp [valOf, ht]⟩
theorem cnt_more {L L' : Nat → Bool} {i : Nat} (h : L' = fun k => if k = i then true else L k) (hi : i = 1 ∨ i = 2 ∨ i = 3) (hl : L i = false) : cntOf L + 1 ≤ cntOf L' := by
  subst h
  rcases hi with rfl | rfl | rfl <;> simp [cntOf, hl] <;> omega
end Go.Proofs.YtjmbobjifojoiaaDoor
