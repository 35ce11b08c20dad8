/- A value's runes, its bytes: one condition. · TableApplies: the program's table and the document's, side by side, and what each call leaves. -/
import Derived.Test.YtcbcknfhblamfaaGreatDoorG23
import Derived.Test.YtcbcknfhblamfaaGreatDoorProg
import Derived.Test.YtcbcknfhblamfaaGreatDoorG25
import Derived.Test.YtcbcknfhblamfaaGreatDoorG26
import Derived.Test.YtcbcknfhblamfaaGreatDoorG17
namespace Go.Proofs.YtcbcknfhblamfaaGreatDoor

theorem decode_low (s : ByteArray) (i : Nat) (h : (s.get! i).toNat < 128) : Utf8.decode s i = ((s.get! i).toNat, 1) := by
  unfold Utf8.decode
  simp only [Nat.add_zero]
  rw [if_pos h]
set_option maxRecDepth 100000 in
theorem decode_high (s : ByteArray) (i : Nat) (h : ¬ (s.get! i).toNat < 128) : 128 ≤ (Utf8.decode s i).1 := by
  unfold Utf8.decode
  simp only [Nat.add_zero]
  rw [if_neg h]
  repeat' split
  all_goals first
    | (simp only [Utf8.runeError]; omega)
    | (rename_i hc; simp only [Bool.and_eq_true, decide_eq_true_eq, ge_iff_le] at hc; simp only; omega)
theorem get_at (s : ByteArray) (i : Nat) (h : i < s.data.toList.length) : s.get! i = s.data.toList[i] := by
  have h2 : i < s.data.size := by simpa using h
  show s.data[i]! = _
  rw [getElem!_pos s.data i h2]
  simp
theorem idx_none (s : ByteArray) : ∀ (f pos : Nat), s.size - pos ≤ f → (Lib.idxFuncFrom badRune true s f pos = -1 ↔ ∀ i, pos ≤ i → i < s.size → okC (s.get! i) = true)
  | 0, pos, hf => by
    simp only [Lib.idxFuncFrom, true_iff]
    intro i h1 h2; omega
  | f + 1, pos, hf => by
    unfold Lib.idxFuncFrom
    by_cases hp : pos < s.size
    · rw [if_pos hp]
      by_cases hl : (s.get! pos).toNat < 128
      · rw [decode_low s pos hl]
        dsimp only
        by_cases hb : okC (s.get! pos) = true
        · have hnb : badRune (s.get! pos).toNat = false := by
            unfold okC at hb; unfold badRune
            rw [decide_eq_true_eq] at hb
            rw [Bool.or_eq_false_iff, decide_eq_false_iff_not, decide_eq_false_iff_not]; omega
          rw [hnb, if_neg (by decide), idx_none s f (pos + 1) (by omega)]
          constructor
          · intro h i h1 h2
            by_cases e : i = pos
            · rw [e]; exact hb
            · exact h i (by omega) h2
          · intro h i h1 h2; exact h i (by omega) h2
        · have hnb : badRune (s.get! pos).toNat = true := by
            unfold okC at hb; unfold badRune
            rw [decide_eq_true_eq] at hb
            rw [Bool.or_eq_true, decide_eq_true_eq, decide_eq_true_eq]; omega
          rw [hnb, if_pos rfl]
          constructor
          · intro h; omega
          · intro h; exact absurd (h pos (Nat.le_refl _) hp) hb
      · have hd := decode_high s pos hl
        have hnb : badRune (Utf8.decode s pos).1 = true := by
          unfold badRune
          rw [Bool.or_eq_true, decide_eq_true_eq, decide_eq_true_eq]; omega
        rw [hnb, if_pos rfl]
        constructor
        · intro h; omega
        · intro h
          have := h pos (Nat.le_refl _) hp
          unfold okC at this
          rw [decide_eq_true_eq] at this; omega
    · rw [if_neg hp]
      simp only [true_iff]
      intro i h1 h2; omega
theorem okV_is (l : List UInt8) : okV l = okR l := by
  have hs : (mkT l).size = l.length := by show l.toArray.size = _; rw [List.size_toArray]
  have h := idx_none (mkT l) (mkT l).size 0 (by omega)
  have hr := Lib.idxFunc_range badRune true (mkT l)
  unfold Lib.idxFunc at hr
  rw [Bool.eq_iff_iff]
  unfold okV okR Lib.idxFunc
  rw [Bool.not_eq_true', decide_eq_false_iff_not, List.all_eq_true]
  constructor
  · intro hn x hx
    obtain ⟨i, hi, rfl⟩ := List.getElem_of_mem hx
    have := h.1 (by omega) i (Nat.zero_le _) (by omega)
    rw [get_at (mkT l) i hi] at this
    exact this
  · intro ha
    have := h.2 (fun i _ hi => by rw [get_at (mkT l) i (show i < l.length by omega)]; exact ha _ (List.getElem_mem _))
    omega
theorem rightE_is (e : Ev) : rightE okV e = rightE okR e := by unfold rightE; rw [okV_is]
end Go.Proofs.YtcbcknfhblamfaaGreatDoor
namespace Go.Proofs.YtcbcknfhblamfaaGreatDoor
open Go.RowKit Go.Shelf

theorem cellsIn_kept {w w' : World} {q : Option Addr} {l : List Cell} (h : cellsIn w q l) (hb : ∀ g o s, q = some ⟨g, o, s⟩ → g < w.heap.size → w'.heap[g]? = w.heap[g]?) (hs : w.heap.size ≤ w'.heap.size) : cellsIn w' q l := by
  rcases h with h | ⟨g, hq, hg, hc⟩
  · exact .inl h
  · exact .inr ⟨g, hq, Nat.lt_of_lt_of_le hg hs, fun j hj i v hi => (World.cell?_of_block (a := ⟨g, 0 + j * 4 + i, none⟩) (hb g 0 none hq hg)).trans (hc j hj i v hi)⟩
/-- Both tables. -/
structure tapI (wz : World) (tb wt n : Nat) (T D : List Cell) (mb : Option Nat) (q : Option Addr) (c : Nat) (w : World) : Prop where
  tab : tabAt w tb mb n T
  doc : w.heap[wt]? = some (.cells #[.slice q D.length c] 27 (0, 0))
  rows : cellsIn w q D
  lo : wz.heap.size ≤ wt ∧ wz.heap.size ≤ tb ∧ tb ≠ wt ∧ wt < w.heap.size ∧ tb < w.heap.size
  map : ∀ b, mb = some b → wz.heap.size ≤ b ∧ b ≠ wt ∧ b < w.heap.size
  row : ∀ g o s, q = some ⟨g, o, s⟩ → g ≠ tb ∧ g ≠ wt ∧ mb ≠ some g ∧ g < w.heap.size
  b : Below wz.heap.size wz w
section
variable {wz w w' : World} {tb wt n n' c : Nat} {T T' D : List Cell} {mb : Option Nat} {q : Option Addr}
theorem tapI.ext (h : tapI wz tb wt n T D mb q c w) (hx : ∃ x, w' = Go.Proofs.YtcbcknfhblamfaaGreatDoor.ext w x) : tapI wz tb wt n T D mb q c w' := by
  have hb := ext_iff.1 hx
  have hs := hb.size
  refine ⟨h.tab.ext hx, (hb.block wt h.lo.2.2.2.1).trans h.doc, cellsIn_kept h.rows (fun g _ _ _ hg => hb.block g hg) hs, ⟨h.lo.1, h.lo.2.1, h.lo.2.2.1, by have := h.lo; omega, by have := h.lo; omega⟩, fun b hb' => ?_, fun g o s hq => ?_, h.b.trans (hb.mono h.b.size)⟩
  · have := h.map b hb'
    exact ⟨this.1, this.2.1, by omega⟩
  · have := h.row g o s hq
    exact ⟨this.1, this.2.1, this.2.2.1, by omega⟩
/-- The program's Apply. -/
theorem tapI.vapply (e : Ev) (h : tapI wz tb wt n T D mb q c w) (hn : n ≤ 1048576) (hz : e.subject.size ≤ 1048576 ∧ e.table.size ≤ 1048576 ∧ e.row.size ≤ 1048576) :
    Calls Tryz.prog 7 #[.pointer (some ⟨tb, 0, none⟩), .agg (evV e)] w fun x w' => x = .returned (if rightE okV e = true then .nilIface else errV 1) ∧ ∃ mb', tapI wz tb wt (n + 1) (applyT okV e T) D mb' q c w' := by
  refine (apply_any e w tb mb n T h.tab hn hz).mono ?_
  rintro x w' ⟨hx, mb', t1, t2, t3, k⟩
  have hlo := h.lo
  have hs := k.size
  have hmb : ∀ b, mb' = some b → mb = some b ∨ (mb = none ∧ w.heap.size ≤ b) := fun b hb => by
    cases mb with
    | none => exact .inr ⟨rfl, t3 rfl b hb⟩
    | some b0 => exact .inl ((t2 b0 rfl).symm.trans hb)
  have hlt : ∀ b, mb' = some b → b < w'.heap.size := fun b hb => (t1.map b hb).lt
  refine ⟨hx, mb', t1, (k.block wt hlo.2.2.2.1 (by omega) (fun e => (h.map wt e.symm).2.1 rfl)).trans h.doc, cellsIn_kept h.rows (fun g o s hq hg => k.block g hg (h.row g o s hq).1 (fun e => (h.row g o s hq).2.2.1 e.symm)) hs, ⟨hlo.1, hlo.2.1, hlo.2.2.1, by omega, by omega⟩, fun b hb => ?_, fun g o s hq => ?_, ?_⟩
  · rcases hmb b hb with h1 | ⟨_, h2⟩
    · have := h.map b h1
      exact ⟨this.1, this.2.1, hlt b hb⟩
    · have := h.b.size
      exact ⟨by omega, by omega, hlt b hb⟩
  · have hr := h.row g o s hq
    refine ⟨hr.1, hr.2.1, fun e => ?_, by omega⟩
    rcases hmb g e with h1 | ⟨_, h2⟩
    · exact hr.2.2.1 h1
    · omega
  · exact ⟨k.os.trans h.b.os, k.tape.trans h.b.tape, k.output.trans h.b.output, Nat.le_trans h.b.size hs, fun i hi => (k.block i (Nat.lt_of_lt_of_le hi h.b.size) (by omega) (fun e => by have := h.map i e.symm; omega)).trans (h.b.block i hi)⟩
/-- The document's Apply of what is right. -/
theorem tapI.rapply (e : Ev) (h : tapI wz tb wt n T D mb q c w) (hn : D.length ≤ 40) (hz : e.subject.size ≤ 1048576 ∧ e.table.size ≤ 1048576 ∧ e.row.size ≤ 1048576 ∧ e.value.size ≤ 1048576) (hR : rightE okR e = true) (hO : Once D) :
    Calls Tryz.prog 8 #[.pointer (some ⟨wt, 0, none⟩), .agg (evV e)] w fun r w' => r = .returned (.int .i64 0) ∧ ∃ q' c' D', D'.Perm (refF e D) ∧ Asc D' ∧ tapI wz tb wt n T D' mb q' c' w' := by
  refine (rapply_any e wt q c D w h.doc h.rows hn hz hR hO).mono ?_
  rintro _ w' ⟨rfl, q', c', D', hp, ha, hd, hc, hq', hg⟩
  have hlo := h.lo
  have hs := hg.size
  refine ⟨rfl, q', c', D', hp, ha, h.tab.kept hg (fun e => by injection e; omega) (fun b hb e => (h.map b hb).2.1 (by injection e)), hd, hc, ⟨hlo.1, hlo.2.1, hlo.2.2.1, by omega, by omega⟩, fun b hb => ?_, fun g o s hq => ?_, ?_⟩
  · have := h.map b hb
    exact ⟨this.1, this.2.1, by omega⟩
  · have h1 := hq' g o s hq
    exact ⟨by omega, by omega, fun e => by have := h.map g e; omega, h1.2⟩
  · exact ⟨hg.os.trans h.b.os, hg.tape.trans h.b.tape, hg.output.trans h.b.output, Nat.le_trans h.b.size hs, fun i hi => (hg.block i (Nat.lt_of_lt_of_le hi h.b.size) (fun e => by injection e; omega)).trans (h.b.block i hi)⟩
end
end Go.Proofs.YtcbcknfhblamfaaGreatDoor
