/- The document's record at a text's beginning: first, ParseRecord (the walks). · Records, one behind the other: plain. · What is told may be written; records, one behind the other, are read back: plain. · wire's iterator over records: its contract (the walk, inside the wide fence). · The document's All (the walk). -/
import Derived.Test.YtgckpfeeioljeaaGreatDoorProg
import Derived.Test.YtgckpfeeioljeaaGreatDoorG38
import Derived.Test.YtgckpfeeioljeaaGreatDoorG40
import Derived.Test.YtgckpfeeioljeaaGreatDoorShelfR
import Derived.Test.YtgckpfeeioljeaaGreatDoorG29
import Derived.RangeFuncNested
import Derived.RangeFuncBound
import Derived.RangeFuncCalls
import Derived.RangeFuncLeaves
import Derived.Shelf.Abstract
import Derived.Shelf.RegionOpen
import Derived.WalkKit
import Derived.OwnWalkIn
import Derived.TacticsInMore
import Derived.LoopNIn
import Derived.LoopIn
import Derived.Sort.QuietLawsIn
import Derived.Test.YtgckpfeeioljeaaGreatDoorG20
namespace Go.Proofs.YtgckpfeeioljeaaGreatDoor
open Go.RowKit

def firstV (l : List UInt8) : Value := if okOne ⟨l, false⟩ = true then .tuple #[.agg (recV (recOf l)), .int .i64 ((kOf l + 19 + nOf l : Nat) : Int)] else .tuple #[.agg (recV zeroR), .int .i64 0]
theorem firstV_no {l : List UInt8} (h : ¬ (lenOK l ∧ fitB (recOf l) = true ∧ writeL mkB (recOf l) <+: l)) : firstV l = .tuple #[.agg (recV zeroR), .int .i64 0] := by
  unfold firstV
  rw [if_neg (fun h' => h ((okOne_places l).1 h'))]
theorem firstV_ok {l : List UInt8} (h : lenOK l ∧ fitB (recOf l) = true ∧ writeL mkB (recOf l) <+: l) : firstV l = .tuple #[.agg (recV (recOf l)), .int .i64 ((kOf l + 19 + nOf l : Nat) : Int)] := by
  unfold firstV
  rw [if_pos ((okOne_places l).2 h)]
theorem hasPrefix_iff (l p : List UInt8) : Lib.hasPrefix l p = true ↔ p <+: l := by
  unfold Lib.hasPrefix
  exact List.isPrefixOf_iff_prefix
/-- The frame of the region that lays the record. -/
def frF (s : ByteArray) (k : Nat) (x g : Nat → Value) : Act := { tmps := #[x 0, .string s, x 2, x 3, x 4, x 5, .int .i64 (k : Int), g 7, x 8, x 9, x 10, x 11, x 12, x 13, x 14, x 15, x 16, x 17, x 18, x 19, x 20, x 21, x 22, x 23, x 24, x 25, x 26, x 27, x 28, g 29, g 30, g 31, g 32, g 33, g 34, g 35, g 36, g 37, g 38, g 39, g 40, g 41, g 42, g 43, g 44, g 45, undef, undef, undef, undef, undef, undef, undef, undef, undef, undef, undef, undef, undef, undef, undef, undef, undef, undef, undef, undef, undef, undef, undef, undef, undef, undef, undef, undef, undef, undef, undef, undef, undef, undef, undef, undef, undef, undef, undef, undef, undef, undef, undef, undef, undef, undef, undef], defers := [] }
def dstF (i : Nat) : Nat := ([29, 30, 31, 32, 33, 34, 35, 36, 37, 38, 39, 40, 41, 42, 43, 44, 45, 7, 1018] : List Nat).getD i (2000 + i)
/-- What each operation lays. -/
def laysF (s : ByteArray) (k : Nat) (c16 ck : UInt8) (u p : ByteArray) (i : Nat) (v : Value) (_ : World) : Prop :=
  match i with
  | 0 => v = .string s
  | 1 => v = .int .u8 (c16.toNat : Int)
  | 2 => v = .int .i64 (c16.toNat : Int)
  | 3 => v = .string s
  | 4 => v = .int .i64 (k : Int)
  | 5 => v = .string u
  | 6 => v = .string s
  | 7 => v = .int .i64 (k : Int)
  | 8 => v = .int .u8 (ck.toNat : Int)
  | 9 => v = .int .i64 (ck.toNat : Int)
  | 10 => v = .string s
  | 11 => v = .int .i64 (k : Int)
  | 12 => v = .int .i64 ((k : Int) + 1)
  | 13 => v = .int .i64 (k : Int)
  | 14 => v = .int .i64 ((k : Int) + 17)
  | 15 => v = .string p
  | 16 => v = .agg #[.int .i64 (c16.toNat : Int), .string u, .int .i64 (ck.toNat : Int), .string p, .string ⟨#[]⟩]
  | _ => True
/-- What stands in memory. -/
def stateF (w0 : World) (r : Rec) (L : Nat → Bool) (g : Nat → Value) (w : World) : Prop :=
  (∃ y, w = ext w0 y) ∧ (L 18 = true → L 17 = true) ∧ (L 17 = true → ∃ kb, g 7 = .pointer (some ⟨kb, 0, none⟩) ∧ w0.heap.size ≤ kb ∧ w.heap[kb]? = some (.cells (if L 18 = true then recV r else #[.int .i64 0, .string ⟨#[]⟩, .int .i64 0, .string ⟨#[]⟩, .string ⟨#[]⟩]) 55 (0, 0)))
theorem stateF_ext {w0 w w' : World} {r : Rec} {L L' : Nat → Bool} {g g' : Nat → Value} (h : stateF w0 r L g w) (hx : ∃ y, w' = ext w y) (h4 : L' 17 = L 17) (h5 : L' 18 = L 18) (h7 : g' 7 = g 7) : stateF w0 r L' g' w' := by
  obtain ⟨h1, h2, h3⟩ := h
  refine ⟨ext_trans h1 hx, by rw [h4, h5]; exact h2, fun hl => ?_⟩
  rw [h4] at hl
  obtain ⟨kb, k1, k2, k3⟩ := h3 hl
  exact ⟨kb, h7.trans k1, k2, by rw [h5]; exact ((ext_iff.1 hx).block _ (lt_of_heap k3)).trans k3⟩
end Go.Proofs.YtgckpfeeioljeaaGreatDoor
namespace Go.Proofs.YtgckpfeeioljeaaGreatDoor

/-- The record at the beginning, and what is left. -/
def stepL (s : List UInt8) : Option (Rec × List UInt8) := if okOne ⟨s, false⟩ = true then some ((oneL ⟨s, false⟩).2.1, (oneL ⟨s, false⟩).2.2.s) else none
section
variable (st : List UInt8 → Option (Rec × List UInt8))
def allN : Nat → List UInt8 → List Rec × List UInt8
  | 0, s => ([], s)
  | f + 1, s => match st s with
    | none => ([], s)
    | some (r, t) => (r :: (allN f t).1, (allN f t).2)
variable {st}
theorem allN_enough (hst : ∀ s r t, st s = some (r, t) → t.length < s.length) : ∀ (f : Nat) (s : List UInt8), s.length ≤ f → allN st f s = allN st s.length s
  | 0, s, h => by rw [show s.length = 0 by omega]
  | f + 1, s, h => by
    cases hs : s.length with
    | zero =>
      have : s = [] := List.length_eq_zero_iff.1 hs
      subst this
      have h0 : st [] = none := by
        cases h1 : st [] with
        | none => rfl
        | some x => have := hst [] x.1 x.2 h1; simp at this
      unfold allN
      rw [h0]
    | succ m =>
      unfold allN
      cases h1 : st s with
      | none => rfl
      | some x =>
        obtain ⟨r, t⟩ := x
        have ht := hst s r t h1
        dsimp only
        rw [allN_enough hst f t (by omega), allN_enough hst m t (by omega)]
theorem allN_none {s : List UInt8} (h : st s = none) : allN st s.length s = ([], s) := by
  cases s.length with
  | zero => rfl
  | succ f => unfold allN; rw [h]
theorem allN_some (hst : ∀ s r t, st s = some (r, t) → t.length < s.length) {s : List UInt8} {r : Rec} {t : List UInt8} (h : st s = some (r, t)) : allN st s.length s = (r :: (allN st t.length t).1, (allN st t.length t).2) := by
  have ht := hst s r t h
  obtain ⟨f, hf⟩ : ∃ f, s.length = f + 1 := ⟨s.length - 1, by omega⟩
  rw [hf]
  unfold allN
  rw [h]
  dsimp only
  rw [allN_enough hst f t (by omega)]
  cases t.length <;> rfl
end
def allL (s : List UInt8) : List Rec × List UInt8 := allN stepL s.length s
theorem step_places {s : List UInt8} {r : Rec} {t : List UInt8} (h : stepL s = some (r, t)) : 0 < kOf s + 19 + nOf s ∧ kOf s + 19 + nOf s ≤ s.length ∧ r = recOf s ∧ t = s.drop (kOf s + 19 + nOf s) ∧ fitB r = true ∧ okOne ⟨s, false⟩ = true := by
  unfold stepL at h
  split at h
  · rename_i ho
    obtain ⟨hl, hf, _⟩ := (okOne_places s).1 ho
    rw [oneL_places hl] at h
    simp only [Option.some.injEq, Prod.mk.injEq] at h
    obtain ⟨rfl, rfl⟩ := h
    exact ⟨by omega, hl.2.2, rfl, rfl, hf, ho⟩
  · cases h
theorem step_short {s : List UInt8} {r : Rec} {t : List UInt8} (h : stepL s = some (r, t)) : t.length < s.length := by
  obtain ⟨h1, h2, _, rfl, _⟩ := step_places h
  rw [List.length_drop]
  omega
theorem allL_none {s : List UInt8} (h : stepL s = none) : allL s = ([], s) := allN_none h
theorem allL_some {s : List UInt8} {r : Rec} {t : List UInt8} (h : stepL s = some (r, t)) : allL s = (r :: (allL t).1, (allL t).2) := allN_some (fun _ _ _ h => step_short h) h
/-- So far: acc are read, t is left. -/
def RunL (s : List UInt8) (acc : List Rec) (t : List UInt8) : Prop := allL s = (acc ++ (allL t).1, (allL t).2)
theorem RunL.start (s : List UInt8) : RunL s [] s := by unfold RunL; rw [List.nil_append]
theorem RunL.next {s : List UInt8} {acc : List Rec} {t u : List UInt8} {r : Rec} (h : RunL s acc t) (hs : stepL t = some (r, u)) : RunL s (acc ++ [r]) u := by
  unfold RunL at h ⊢
  rw [h, allL_some hs]
  simp
theorem RunL.stop {s : List UInt8} {acc : List Rec} {t : List UInt8} (h : RunL s acc t) (hs : stepL t = none) : allL s = (acc, t) := by
  unfold RunL at h
  rw [h, allL_none hs]
  simp
theorem firstV_step (t : List UInt8) : (stepL t = none ∧ firstV t = .tuple #[.agg (recV zeroR), .int .i64 0]) ∨ ∃ n : Nat, 0 < n ∧ n ≤ t.length ∧ stepL t = some (recOf t, t.drop n) ∧ firstV t = .tuple #[.agg (recV (recOf t)), .int .i64 n] := by
  cases h : stepL t with
  | none =>
    refine .inl ⟨rfl, ?_⟩
    unfold firstV
    unfold stepL at h
    split at h
    · cases h
    · rename_i h'; rw [if_neg h']
  | some x =>
    obtain ⟨r, u⟩ := x
    obtain ⟨h1, h2, rfl, rfl, _, h3⟩ := step_places h
    refine .inr ⟨_, h1, h2, rfl, ?_⟩
    unfold firstV
    rw [if_pos h3]
end Go.Proofs.YtgckpfeeioljeaaGreatDoor
namespace Go.Proofs.YtgckpfeeioljeaaGreatDoor

theorem told_fit {sec : ByteArray} {R : RunM} (HR : Runs sec R) (hz : R.ok.length ≤ 100) {k : Nat} {x : Rec} (h1 : R.S.L[k]? = some x) : fitB x = true := by
  have hk : k < R.ok.length := by rw [← HR.inv.len]; exact (List.getElem?_eq_some_iff.1 h1).1
  obtain ⟨t1, t2, t3, t4, _⟩ := HR.inv.told k x _ h1 (List.getElem?_eq_getElem hk)
  have hn := t1.name
  have hs := t1.small
  have h0 := t1.gen0
  have hc := HR.inv.cnt x.subject
  have hl := HR.inv.len
  unfold fitB
  simp only [Bool.and_eq_true, decide_eq_true_eq]
  refine ⟨⟨⟨⟨⟨⟨?_, ?_⟩, hn⟩, h0⟩, ?_⟩, ?_⟩, ?_⟩ <;> omega
/-- All bytes. -/
def catW (L : List Rec) : List UInt8 := (L.map (writeL mkB)).flatten
theorem catW_snoc (L : List Rec) (r : Rec) : catW (L ++ [r]) = catW L ++ writeL mkB r := by unfold catW; simp
theorem stepL_write {r : Rec} (h : fitB r = true) (more : List UInt8) : stepL (writeL mkB r ++ more) = some (r, more) := by
  have e := oneL_write mkB mkB_length (fits_of h) more false
  unfold stepL
  rw [if_pos (by rw [okOne_iff, e]; exact ⟨rfl, h, rfl⟩), e]
theorem allL_cat : ∀ L : List Rec, (∀ r ∈ L, fitB r = true) → allL (catW L) = (L, [])
  | [], _ => rfl
  | r :: L, h => by
    have e : catW (r :: L) = writeL mkB r ++ catW L := by unfold catW; simp
    rw [e, allL_some (stepL_write (h r (by simp)) _), allL_cat L (fun x hx => h x (by simp [hx]))]
theorem writeL_len {r : Rec} (h : fitB r = true) : (writeL mkB r).length ≤ 1000 := by
  have hf := fits_of h
  unfold fits at hf
  unfold writeL
  simp only [List.length_append, mkB_length, List.length_cons, List.length_nil, bs_length]
  omega
theorem catW_len : ∀ L : List Rec, (∀ r ∈ L, fitB r = true) → (catW L).length ≤ 1000 * L.length
  | [], _ => Nat.le_refl _
  | r :: L, h => by
    have e : catW (r :: L) = writeL mkB r ++ catW L := by unfold catW; simp
    have := writeL_len (h r (by simp))
    have := catW_len L (fun x hx => h x (by simp [hx]))
    rw [e, List.length_append, List.length_cons]; omega
end Go.Proofs.YtgckpfeeioljeaaGreatDoor
namespace Go.Proofs.YtgckpfeeioljeaaGreatDoor
open Go.RowKit Go.Shelf
attribute [local go_sem] Oper.semAt_some

/-- How many bytes are left in the reader. -/
def rdLen (w : World) (rb : Nat) : Nat := match w.cell? ⟨rb, 0, none⟩ with
  | some (.string s) => s.size
  | _ => 0
theorem rdLen_at {w : World} {rb : Nat} {st : St} (h : readerAt w rb st) : rdLen w rb = st.s.length := by
  unfold rdLen
  rw [(reader_cells h).1]
  exact mkS_size _
theorem step_nil : stepL [] = none := by
  cases h : stepL [] with
  | none => rfl
  | some x => exact absurd (step_short (r := x.1) (t := x.2) h) (by simp)
theorem step_none {t : List UInt8} (h : stepL t = none) : okOne ⟨t, false⟩ = false := by
  unfold stepL at h
  split at h
  · cases h
  · rename_i h'; simpa using h'
theorem step_some {t u : List UInt8} {r : Rec} (h : stepL t = some (r, u)) : okOne ⟨t, false⟩ = true ∧ (oneL ⟨t, false⟩).2.1 = r ∧ (oneL ⟨t, false⟩).2.2 = ⟨u, false⟩ := by
  have ho := (step_places h).2.2.2.2.2
  unfold stepL at h
  rw [if_pos ho] at h
  simp only [Option.some.injEq, Prod.mk.injEq] at h
  obtain ⟨h1, h2⟩ := h
  have hb := ((okOne_iff _).1 ho).1
  refine ⟨ho, h1, ?_⟩
  generalize (oneL ⟨t, false⟩).2.2 = x at h2 hb
  obtain ⟨a, b⟩ := x
  dsimp only at h2 hb
  rw [h2, hb]
set_option maxRecDepth 100000 in
set_option maxHeartbeats 4000000 in
theorem all_in (l rb : Nat) (s : List UInt8) (hs : s.length ≤ 1048576) (J : List Rec → List UInt8 → World → Prop) (W : World)
    (hJ : ∀ acc t A B, J acc t A → A.grownBy B (some rb) → J acc t B)
    (hY : ∀ acc t r u A, J acc t A → stepL t = some (r, u) → readerAt A rb ⟨u, false⟩ → Rounds A → YieldAt Fence.wide 1 Tryz.prog l #[.int .i64 (u.length : Nat), .agg (recV r)] A fun e B => e = .returned (.bool true) ∧ J (acc ++ [r]) u B ∧ readerAt B rb ⟨u, false⟩ ∧ Rounds B)
    (hrd : readerAt W rb ⟨s, false⟩) (hRo : Rounds W) (h0 : J [] s W) :
    CallsIn Fence.wide 2 Tryz.prog 50 #[.pointer (some ⟨rb, 0, none⟩), .func (.yield l) #[] #[]] W fun e B => (∃ v, e = .returned v) ∧ ∃ acc t, RunL s acc t ∧ stepL t = none ∧ J acc t B := by
  have hmix : Tryz.prog.follows .mixedOrders = true := by kernel_rfl
  have JJ0 := Lib.hid h0
  have RD0 := Lib.hid hrd
  have RO0 := Lib.hid hRo
  have HJ := Lib.hid hJ
  have HY := Lib.hid hY
  clear h0 hrd hRo hJ hY
  refine callsIn_of_wp Tryz.func50 rfl trivial ?_ rfl
  simp only [Tryz.ntmps50, List.size_toArray, List.length_cons, List.length_nil, Nat.reduceAdd, Nat.reduceSub, Array.replicate_succ, Array.replicate_zero, List.push_toArray, List.append_toArray, List.nil_append, List.cons_append]
  gi_wp2
  gi_loopw [5] (fun _ wr => ∃ acc t, Hid (RunL s acc t) ∧ Hid (J acc t wr) ∧ Hid (readerAt wr rb ⟨t, false⟩) ∧ Hid (Rounds wr) ∧ Hid (t.length ≤ s.length)) (fun _ wr => rdLen wr rb)
  case atStart => exact ⟨[], s, Lib.hid (RunL.start s), JJ0, RD0, RO0, Lib.hid (Nat.le_refl _)⟩
  case round =>
    clear JJ0 RD0 RO0
    obtain ⟨acc, t, RU, JJ, RD, RO, LE⟩ := hrel
    obtain ⟨c0, c1⟩ := reader_cells RD.out
    dsimp only at c0 c1
    have hss : (mkS t).toList = t := by rw [ByteArray.toList_eq]; rfl
    have hrb : rb < wr.heap.size := lt_of_heap (show wr.heap[rb]? = _ from RD.out)
    cases t with
    | nil =>
      gi_wp2
      go_end0
      exact ⟨⟨_, rfl⟩, acc, [], RU.out, step_nil, JJ.out⟩
    | cons c t =>
      have ON := (callsIn_wide (n := 1)).2 (one_any ⟨c :: t, false⟩ (Nat.le_trans LE.out hs) rb wr RD.out RO.out)
      cases hst : stepL (c :: t) with
      | none =>
        rw [step_none hst] at ON
        generalize (oneL ⟨c :: t, false⟩).2.1 = r at ON
        generalize (oneL ⟨c :: t, false⟩).2.2 = st at ON
        obtain ⟨q, u, g, p, b⟩ := r
        unfold recV at ON
        dsimp only at ON
        have SN := Lib.hid hst
        clear hst
        gi_wp2_with (refine ⟨trivial, ?_⟩; gi_at_call 71; refine ON.mono ?_; rintro _ w2 ⟨rfl, r2, g2⟩)
        have J2 := Lib.hid (HJ.out _ _ _ _ JJ.out (g2.trans (World.grownBy_alloc w2 (.cells #[.int .i64 q, .string u, .int .i64 g, .string p, .string b] 55) (some rb))))
        have J3 := Lib.hid (fun k => HJ.out _ _ _ ((w2.alloc (.cells #[.int .i64 q, .string u, .int .i64 g, .string p, .string b] 55)).drewN k) J2.out ⟨rfl, rfl, rfl, Nat.le_refl _, fun _ _ _ => rfl⟩)
        clear ON RD RO JJ r2 J2 g2
        refine wpIn_region_quiet_lit rfl hmix (by kernel_rfl) ?_
        repeat (gi_big_quiet_step (fail))
        refine BigFrame.wpQuietIn_skip (fun _ _ _ _ => trivial) rfl ?_
        go_simp
        repeat (gi_big_quiet_step (fail))
        refine wpQuietIn_nil ?_
        intro nq
        gi_wp2
        refine bodyPost_ret (results_none rfl _ _ _) rfl ?_
        exact ⟨⟨_, rfl⟩, acc, c :: t, RU.out, SN.out, J3.out _⟩
      | some x =>
        obtain ⟨r, u⟩ := x
        obtain ⟨h1, h2, h3⟩ := step_some hst
        rw [h1, h2, h3] at ON
        have hul := step_short hst
        have SN := Lib.hid hst
        have hY := fun A hj hr hR => HY.out acc (c :: t) r u A hj hst hr hR
        have RN := Lib.hid (RU.out.next hst)
        clear hst h1 h2 h3
        obtain ⟨q, v, g, p, b⟩ := r
        unfold recV at ON hY
        dsimp only at ON hY
        gi_wp2_with (refine ⟨trivial, ?_⟩; gi_at_call 71; refine ON.mono ?_; rintro _ w2 ⟨rfl, r2, g2⟩)
        have GA := World.grownBy_alloc w2 (.cells #[.int .i64 q, .string v, .int .i64 g, .string p, .string b] 55) (some rb)
        have GD : World.grownBy (w2.alloc (.cells #[.int .i64 q, .string v, .int .i64 g, .string p, .string b] 55)) (w2.alloc (.cells #[.int .i64 q, .string v, .int .i64 g, .string p, .string b] 55)).drew (some rb) := ⟨rfl, rfl, rfl, Nat.le_refl _, fun _ _ _ => rfl⟩
        have J3 := HJ.out _ _ _ _ JJ.out ((g2.trans GA).trans GD)
        have r3 : readerAt (w2.alloc (.cells #[.int .i64 q, .string v, .int .i64 g, .string p, .string b] 55)).drew rb ⟨u, false⟩ := (Below.heap_alloc w2 _ rb (lt_of_heap (show w2.heap[rb]? = _ from r2))).trans r2
        have R3 : Rounds (w2.alloc (.cells #[.int .i64 q, .string v, .int .i64 g, .string p, .string b] 55)).drew := Rounds_ext (Rounds_reader RO.out RD.out g2) (ext_drew (ext_alloc _ (ext_refl w2)))
        obtain ⟨fn, tmps, assign, body, hy, hR⟩ := hY _ J3 r3 R3
        obtain ⟨d0, d1⟩ := reader_cells r3
        dsimp only at d0 d1
        have hsz : (mkS u).size = u.length := mkS_size u
        have hrb2 : rb < w2.heap.size := lt_of_heap (show w2.heap[rb]? = _ from r2)
        have hlt := Lib.hid (rdLen_at RD.out)
        clear ON RD JJ GA GD J3 r3 R3 r2 hY
        have hmix2 := hmix
        gi_region_with_o (refine hR.mono ?_; rintro e W3 ⟨rfl, J4, r4, R4⟩)
        all_goals
          clear hy hR d0 d1 hsz c0 c1 hss
          go_simp
          gi_wp2
          go_roundw
          case rel => exact ⟨acc ++ [⟨q, v, g, p, b⟩], u, RN, Lib.hid J4, Lib.hid r4, Lib.hid R4, Lib.hid (by have := LE.out; omega)⟩
          case measure => rw [rdLen_at r4, hlt.out]; exact hul
end Go.Proofs.YtgckpfeeioljeaaGreatDoor
namespace Go.Proofs.YtgckpfeeioljeaaGreatDoor
open Go.RowKit Go.Shelf

/-- What All hands back. -/
def AllPost (s : ByteArray) (w : World) (r : Ending) (w' : World) : Prop :=
  ∃ v, r = .returned (.tuple #[v, .int .i64 ((s.size - (allL (bs s)).2.length : Nat) : Int)]) ∧ ownsRl w' w.heap.size v (allL (bs s)).1 ∧ (allL (bs s)).1.length ≤ s.size ∧ Below w.heap.size w w'
theorem extract_drop (s : ByteArray) (n : Nat) : s.extract n s.size = mkS ((bs s).drop n) := by
  have := cut_back (bs s) n
  rwa [mkS_bs, bs_length] at this
end Go.Proofs.YtgckpfeeioljeaaGreatDoor
