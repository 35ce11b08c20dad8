/- slices.Equal at rows. · A source and a reader of it, side by side. · oubliettekeep.follow: a reader that reads the first records of a feed (the walk). · oublietteref.mix (printed by wip/bin/gen_mix.py), in, long. · Slices of whole numbers that a call makes itself: append, the elements. -/
import Derived.Test.YtgckpfeeioljeaaGreatDoorProg
import Derived.Test.YtgckpfeeioljeaaGreatDoorG22
import Derived.Test.YtgckpfeeioljeaaGreatDoorShelfT
import Derived.Shelf.SlicesQ.Equal
import Derived.Test.YtgckpfeeioljeaaGreatDoorG31
import Derived.Test.YtgckpfeeioljeaaGreatDoorG33
import Derived.Test.YtgckpfeeioljeaaGreatDoorG8
import Derived.Test.YtgckpfeeioljeaaGreatDoorWords
namespace Go.Proofs.YtgckpfeeioljeaaGreatDoor
open Go.RowKit Go.Shelf Go.Lib

theorem neC : NeqAt Tryz.prog 43 (fun x => .agg (cellVs x).toArray) cellEq := by
  refine ⟨fun x y w => ?_, GuardAt.agg _ (by kernel_rfl)⟩
  have u9 := Tryz.underlying9
  have a9 := Tryz.isAgg9
  have z9 := Tryz.sizeOf9
  have hS : Tryz.prog.underlying 43 = some (.struct (Tryz.prog.fieldsOf 43)) := by kernel_rfl
  have hp : Tryz.prog.stoodInHeld 43 = false := by kernel_rfl
  simp only [cellVs]
  rw [run_neq_struct, show (10000 : Nat) = 9999 + 1 from rfl, run_equalIn_agg w 9999 43 _ _ hS hp]
  simp only [Program.fieldsOf, Tryz.underlying43]
  unfold cellEq
  go_simp
  by_cases h1 : x.table.toList = y.table.toList <;> by_cases h2 : x.row.toList = y.row.toList <;> by_cases h3 : x.subject.toList = y.subject.toList <;> by_cases h4 : x.value.toList = y.value.toList <;> simp [h1, h2, h3, h4]
set_option maxRecDepth 100000 in
theorem eqC_none (q r : Option Addr) (c d : Nat) (w : World) : Calls Tryz.prog 17 #[.slice q 0 c, .slice r 0 d] w fun e w' => e = .returned (.bool true) ∧ w' = w := by
  go_enter Tryz.func17, Tryz.ntmps17
  go_wp2
  refine wp_loop_rounds 1 ?_
  rw [rounds_succ]
  go_wp2_with fail
  go_ret
  exact ⟨rfl, rfl⟩
set_option maxRecDepth 100000 in
theorem eqC_less (q r : Option Addr) (n m c d : Nat) (w : World) (hn : n ≠ m) : Calls Tryz.prog 17 #[.slice q n c, .slice r m d] w fun e w' => e = .returned (.bool false) ∧ w' = w := by
  have hnm' : ¬ ((n : Int) = m) := by omega
  go_enter Tryz.func17, Tryz.ntmps17
  go_wp2_with fail
  go_ret
  exact ⟨rfl, rfl⟩
theorem allEq_cells (l m : List Cell) : Lib.allEq cellEq l m = true ↔ l = m := by
  constructor
  · intro h
    by_cases hl : l.length = m.length
    · refine List.ext_getElem hl fun i h1 h2 => ?_
      by_cases he : cellEq l[i] m[i] = true
      · exact cellEq_iff.1 he
      · exfalso
        rw [Lib.allEq_elem cellEq l m i h1 h2 (by simp only [getElem!_pos, h1, h2]; simpa using he)] at h
        cases h
    · rw [Lib.allEq_len cellEq _ _ hl] at h; cases h
  · rintro rfl
    exact Lib.allEq_all cellEq l l rfl (fun j _ => cellEq_iff.2 rfl)
/-- Equal at rows. -/
theorem eqC_any (q r : Option Addr) (c d : Nat) (l m : List Cell) (w : World) (hl : l.length ≤ 9223372036854775807) (hm : m.length ≤ 9223372036854775807) (h1 : cellsIn w q l) (h2 : cellsIn w r m) :
    Calls Tryz.prog 17 #[.slice q l.length c, .slice r m.length d] w (Res (Lib.allEq cellEq l m) w) := by
  by_cases hlm : l.length = m.length
  · by_cases h0 : l.length = 0
    · have e1 := List.length_eq_zero_iff.1 h0
      have e2 := List.length_eq_zero_iff.1 (hlm.symm.trans h0)
      subst e1 e2
      exact (eqC_none q r c d w).mono fun e w' ⟨h1, h2⟩ => ⟨by rw [h1]; rfl, by rw [h2]; exact ext_refl w⟩
    · rcases h1 with rfl | ⟨b1, rfl, hb1, hc1⟩
      · exact absurd rfl h0
      · rcases h2 with rfl | ⟨b2, rfl, hb2, hc2⟩
        · exact absurd hlm h0
        · have h := AnyQ.slices_Equal Tryz.eqCells 4 isAggC sizeOfC cellVs (fun _ => rfl) cellEq neC b1 0 l.length c b2 0 m.length d l m w (Nat.le_refl _) (Nat.le_refl _) hl hm hc1 hc2
          rw [List.take_length, List.take_length] at h
          exact h.mono fun e w' ⟨h1, q, h2⟩ => ⟨h1, by rw [h2]; exact ext_drewN q (ext_refl w)⟩
  · exact (eqC_less q r _ _ c d w hlm).mono fun e w' ⟨h1, h2⟩ => ⟨by rw [h1, Lib.allEq_len cellEq _ _ hlm], by rw [h2]; exact ext_refl w⟩
end Go.Proofs.YtgckpfeeioljeaaGreatDoor
namespace Go.Proofs.YtgckpfeeioljeaaGreatDoor
open Go.RowKit Go.Shelf

/-- Read, at the record that comes next. -/
theorem read_next (x : Rec) (e : Ev) (w : World) (V D : Blk) (rb vb n nv : Nat) (sec : ByteArray) (many : ByteArray → Nat) (has : ByteArray → Bool) (R : RdM) (h : rdIn w D rb vb n R) (hv : vaultIn w V vb nv sec many has) (hG : Glob w (fun i => V i ∨ D i)) (ha : apart V D)
    (ht : isTold sec x e) (hm : x.gen ≤ (many x.subject : Nat)) (h1 : x.seq = R.seq + 1) (h2 : x.prev = R.mark) (hn : n ≤ 1048576) (hsq : R.seq < 1048576) :
    Calls Tryz.prog 52 #[.pointer (some ⟨rb, 0, none⟩), .agg (recV x)] w fun r w' => r = .returned .nilIface ∧ ∃ D', rdIn w' D' rb vb (n + 1) (readM many has R x e) ∧ step w w' D D' := by
  cases hl : lostR many has x with
  | true => exact read_lost x e w V D rb vb n nv sec many has R h hv hG ha ht hm h1 h2 hn hsq hl
  | false => exact read_kept x e w V D rb vb n nv sec many has R h hv hG ha ht hm h1 h2 hn hsq hl
structure twoIn (w0 w : World) (V F D : Blk) (sb vb rb n m : Nat) (S : SrcM) (R : RdM) : Prop where
  st : step w0 w none0 (fun i => F i ∨ D i)
  src : srcIn w V F sb vb n secS S
  rdr : rdIn w D rb vb m R
  ap : apart F D
theorem twoIn.ext {w0 w w' : World} {V F D : Blk} {sb vb rb n m : Nat} {S : SrcM} {R : RdM} (h : twoIn w0 w V F D sb vb rb n m S R) (hx : ∃ x, w' = Go.Proofs.YtgckpfeeioljeaaGreatDoor.ext w x) : twoIn w0 w' V F D sb vb rb n m S R :=
  ⟨h.st.trans (.of_ext _ hx), h.src.ext hx, h.rdr.ext hx, h.ap⟩
theorem twoIn.mono {w0 w : World} {V F D : Blk} {sb vb rb n m n' m' : Nat} {S : SrcM} {R : RdM} (h : twoIn w0 w V F D sb vb rb n m S R) (h1 : n ≤ n') (h2 : m ≤ m') : twoIn w0 w V F D sb vb rb n' m' S R :=
  ⟨h.st, h.src.mono h1, h.rdr.mono h2, h.ap⟩
theorem twoIn.turn {w0 w w' : World} {V F F' D : Blk} {sb vb rb n n' m : Nat} {S S' : SrcM} {R : RdM} (h : twoIn w0 w V F D sb vb rb n m S R) (hs : srcIn w' V F' sb vb n' secS S') (g : step w w' F F') : twoIn w0 w' V F' D sb vb rb n' m S' R :=
  ⟨h.st.trans ((g.lift (A := fun i => F i ∨ D i) (fun _ hi => .inl hi)).more (fun _ hi => hi.elim (fun h => .inl (.inr h)) (fun h => .inl (.inl (.inr h))))), hs, h.rdr.step g h.ap, g.apart h.ap h.rdr.lt⟩
theorem twoIn.read {w0 w w' : World} {V F D D' : Blk} {sb vb rb n m m' : Nat} {S : SrcM} {R R' : RdM} (h : twoIn w0 w V F D sb vb rb n m S R) (hr : rdIn w' D' rb vb m' R') (g : step w w' D D') : twoIn w0 w' V F D' sb vb rb n m' S R' :=
  ⟨h.st.trans ((g.lift (A := fun i => F i ∨ D i) (fun _ hi => .inr hi)).more (fun _ hi => hi.elim (fun h => .inl (.inl (.inl h))) (fun h => .inl (.inr h)))), h.src.step g h.ap.symm, hr, (g.apart h.ap.symm h.src.lt).symm⟩
theorem rows_shape {w : World} {base : Nat} {v : Value} {l : List Cell} (h : ownsCl w base v l) : ∃ q cap, v = .slice q l.length cap := by
  obtain ⟨_, ⟨h1, h2⟩ | ⟨g, cap, cur, h1, _⟩⟩ := h
  · exact ⟨none, 0, by rw [h1, h2]⟩
  · exact ⟨some ⟨g, 0, none⟩, cap, h1⟩
theorem sortC_len (T : List Cell) : (sortC T).length = T.length := (sortC_perm T).length_eq
theorem stepT_len (e : Ev) (T : List Cell) : (stepT e T).length ≤ T.length + 1 := by
  unfold stepT putT delT goneT
  split
  · rw [List.length_cons]
    exact Nat.succ_le_succ (List.length_filter_le _ _)
  · split
    · split
      · exact Nat.le_succ_of_le (List.length_filter_le _ _)
      · exact Nat.le_succ _
    · exact Nat.le_succ_of_le (List.length_filter_le _ _)
theorem tabN_len (ok : List Ev) (k : Nat) : (tabN ok k).length ≤ k := by
  induction k with
  | zero => exact Nat.le_refl _
  | succ k ih =>
    cases h : ok[k]? with
    | none => unfold tabN at *; rw [List.take_add_one, h]; simpa using Nat.le_succ_of_le ih
    | some e => rw [tabN_succ h]; exact Nat.le_trans (stepT_len e _) (Nat.succ_le_succ ih)
/-! ### The reader of all that is told -/
def rdSame (R : RunM) : RdM := ⟨R.ok.length, headR R.S.L, R.S.T, 0⟩
theorem rdSame_start : rdSame R0 = RD0 := rfl
theorem same_step {sec : ByteArray} {R : RunM} {e : Ev} (h : Runs sec R) (hx : doX R.S e = 0) :
    isTold sec (toldR sec R.S.many R.S.has R.S.L e) e ∧ (toldR sec R.S.many R.S.has R.S.L e).gen ≤ ((doS sec R.S e).many (toldR sec R.S.many R.S.has R.S.L e).subject : Nat) ∧
    (toldR sec R.S.many R.S.has R.S.L e).seq = (rdSame R).seq + 1 ∧ (toldR sec R.S.many R.S.has R.S.L e).prev = (rdSame R).mark ∧
    readM (doS sec R.S e).many (doS sec R.S e).has (rdSame R) (toldR sec R.S.many R.S.has R.S.L e) e = rdSame (run1 sec R e) := by
  have h' := h.step e
  unfold run1 at h' ⊢
  rw [if_pos hx] at h' ⊢
  have hL : (doS sec R.S e).L = R.S.L ++ [toldR sec R.S.many R.S.has R.S.L e] := by rw [doS_yes hx]
  have hT : (doS sec R.S e).T = stepT e R.S.T := by rw [doS_yes hx]
  have hi := h'.inv.told R.ok.length (toldR sec R.S.many R.S.has R.S.L e) e (by show (doS sec R.S e).L[_]? = _; rw [hL, ← h.inv.len]; simp) (by simp)
  dsimp only at hi
  obtain ⟨t1, t2, t3, t4, t5⟩ := hi
  rw [hL, ← h.inv.len, List.take_left] at t3
  rw [show (R.ok ++ [e]).drop (R.ok.length + 1) = [] from List.drop_eq_nil_of_le (by simp), goneIn_nil, Bool.and_false] at t5
  refine ⟨t1, t4, t2, t3, ?_⟩
  unfold readM rdSame
  dsimp only
  rw [if_neg (by rw [t5]; decide), if_neg (by rw [t5]; decide), hL, headR_snoc, hT, List.length_append, List.length_singleton]
end Go.Proofs.YtgckpfeeioljeaaGreatDoor
namespace Go.Proofs.YtgckpfeeioljeaaGreatDoor
open Go.RowKit Go.Shelf

/-- A reader that has read k of a run's records. -/
abbrev follR (R : RunM) (k : Nat) : RdM := follN R.S.many R.S.has R.S.L R.ok RD0 k
theorem glob_in {w w' : World} {V D : Blk} (hG : Glob w V) (h : step w w' none0 D) : Glob w' (fun i => V i ∨ D i) := hG.step (h.lift (A := V) (fun _ h => h.elim))
theorem new_apart {w w' : World} {V D : Blk} (h : step w w' none0 D) (hV : ∀ i, V i → i < w.heap.size) : apart V D := fun i h1 h2 => by have := (h.new h2).1; have := hV i h1; omega
/-- The next record of a run. -/
theorem foll_next {R : RunM} (HR : Runs secS R) {k : Nat} {x : Rec} {e : Ev} (h1 : R.S.L[k]? = some x) (h2 : R.ok[k]? = some e) :
    isTold secS x e ∧ x.gen ≤ (R.S.many x.subject : Nat) ∧ x.seq = (follR R k).seq + 1 ∧ x.prev = (follR R k).mark ∧ (follR R k).seq = k ∧ readM R.S.many R.S.has (follR R k) x e = follR R (k + 1) := by
  obtain ⟨t1, t2, t3, t4, _⟩ := HR.inv.told k x e h1 h2
  have hk := (List.getElem?_eq_some_iff.1 h2).1
  obtain ⟨l1, l2, _⟩ := late HR k (by omega)
  refine ⟨t1, t4, ?_, ?_, l1, (follN_succ h1 h2).symm⟩
  · rw [l1]; exact t2
  · rw [l2]; exact t3
/-- Read, at the record of a run that comes next. -/
theorem read_foll (R : RunM) (HR : Runs secS R) (hz : R.ok.length ≤ 1000) (k : Nat) (x : Rec) (h1 : R.S.L[k]? = some x) (w0 w : World) (V D : Blk) (rb vb nv : Nat) (hv : vaultIn w0 V vb nv secS R.S.many R.S.has) (hG : Glob w0 V) (hst : step w0 w none0 D) (h : rdIn w D rb vb k (follR R k)) :
    Calls Tryz.prog 52 #[.pointer (some ⟨rb, 0, none⟩), .agg (recV x)] w fun r w' => r = .returned .nilIface ∧ ∃ D', rdIn w' D' rb vb (k + 1) (follR R (k + 1)) ∧ step w w' D D' := by
  have hk : k < R.ok.length := by rw [← HR.inv.len]; exact (List.getElem?_eq_some_iff.1 h1).1
  obtain ⟨t1, t2, t3, t4, t5, t6⟩ := foll_next HR h1 (List.getElem?_eq_getElem hk)
  have := read_next x R.ok[k] w V D rb vb k nv secS R.S.many R.S.has (follR R k) h (hv.ext hst.ext) (glob_in hG hst) (new_apart hst hv.lt) t1 t2 t3 t4 (by omega) (by rw [t5]; omega)
  rw [t6] at this
  exact this
set_option maxRecDepth 100000 in
set_option maxHeartbeats 4000000 in
theorem follow_any (R : RunM) (HR : Runs secS R) (hz : R.ok.length ≤ 1000) (k : Nat) (hk : k ≤ R.ok.length) (q : Option Addr) (cp : Nat) (w : World) (V : Blk) (vb n : Nat) (hv : vaultIn w V vb n secS R.S.many R.S.has) (hG : Glob w V) (hr : recsAt w q (R.S.L.take k)) :
    Calls Tryz.prog 15 #[.pointer (some ⟨vb, 0, none⟩), .slice q k cp] w fun r w' => ∃ rb D, r = .returned (.tuple #[.pointer (some ⟨rb, 0, none⟩), .bool true]) ∧ rdIn w' D rb vb k (follR R k) ∧ step w w' none0 D := by
  have HV := Lib.hid hv
  have GG := Lib.hid hG
  have RR := Lib.hid hr
  have HRU := Lib.hid HR
  have hk1 : k ≤ 1000 := by omega
  have HK := Lib.hid hk
  clear hv hG hr HR hk
  go_enter Tryz.func15, Tryz.ntmps15
  go_wp2_with fail
  refine (rnew_any vb w).mono ?_
  rintro _ w1 ⟨rb, D, rfl, hr1, hst1, _⟩
  have ST := Lib.hid hst1
  have RI := Lib.hid hr1
  clear hr1 hst1
  go_wp2_with fail
  go_loopw [8] (fun iv wr => ∃ (j : Nat) (D : Blk), j ≤ k ∧ iv = .int .i64 j ∧ Hid (rdIn wr D rb vb j (follR R j)) ∧ Hid (step w wr none0 D)) (fun iv _ => k - (intOf iv).toNat)
  case atStart => exact ⟨0, D, Nat.zero_le _, rfl, RI, ST⟩
  case round =>
    clear RI ST
    obtain ⟨j, D, hj, rfl, RI, ST⟩ := hrel
    by_cases hlt : j < k
    · have hL : j < R.S.L.length := by rw [HRU.out.inv.len]; have := HK.out; omega
      have hx := List.getElem?_eq_getElem hL
      have hx' : (R.S.L.take k)[j]? = some R.S.L[j] := by rw [List.getElem?_take_of_lt hlt]; exact hx
      have RD := read_foll R HRU.out hz j _ hx w wr V D rb vb n HV.out GG.out ST.out RI.out
      have hb := ext_iff.1 ST.out.ext
      obtain ⟨g, o, rfl, e0, e1, e2, e3, e4, hg⟩ := recsAt_row (recsAt_of RR.out (fun k hk => hb.block k hk) hb.size) hx'
      generalize R.S.L[j] = x at RD hx hx' e0 e1 e2 e3 e4
      clear hx hx' hb
      have hlt' : (j : Int) < k := by omega
      obtain ⟨q0, u0, g0, p0, b0⟩ := x
      unfold recV at RD
      dsimp only at RD e0 e1 e2 e3 e4
      go_wp2_with fail
      refine RD.mono ?_
      rintro _ w7 ⟨rfl, D', hr7, hst7⟩
      have R7 := Lib.hid hr7
      have S7 := Lib.hid (ST.out.trans hst7)
      clear hr7 hst7 RD RI ST e0 e1 e2 e3 e4
      go_wp2_with fail
      go_roundw
      case rel => exact ⟨j + 1, D', hlt, by go_num, R7, S7⟩
      case measure => simp [intOf]; omega
    · obtain rfl : j = k := by omega
      go_wp2_with fail
      go_ret2
      exact ⟨rb, D, rfl, RI.out, ST.out⟩
end Go.Proofs.YtgckpfeeioljeaaGreatDoor
namespace Go.Proofs.YtgckpfeeioljeaaGreatDoor
open Go.RowKit

/-! ### A row of words with something behind it -/
def rowS (n : Nat) (A : Nat → BitVec 32) (sp : Array Value) : Array Value := row32 n A ++ sp
theorem rowS_set {n : Nat} (A : Nat → BitVec 32) (sp : Array Value) (i : Nat) (hi : i < n) (v : BitVec 32) : (rowS n A sp).setIfInBounds i (.int .u32 (val v)) = rowS n (upd A i v) sp := by
  unfold rowS
  rw [Array.setIfInBounds_append_left (by rw [row32_size]; exact hi), row32_set]
theorem cell_of_rowS {w : World} {b n : Nat} {A : Nat → BitVec 32} {sp : Array Value} {t : TypeId} (h : w.heap[b]? = some (.cells (rowS n A sp) t (0, 0))) :
    ∀ i, i < n → w.cell? ⟨b, i, none⟩ = some (.int .u32 (val (A i))) := by
  intro i hi
  rw [cell_in, h]
  simp only [cellIn, rowS, Option.isSome_none, Bool.false_eq_true, if_false]
  rw [Array.getElem?_append_left (by rw [row32_size]; exact hi)]
  simp [row32, row_get, hi]
theorem store_rowS {w : World} {x : More} {b n i : Nat} {A : Nat → BitVec 32} {sp : Array Value} {t : TypeId} {v : BitVec 32} (hi : i < n) (h : w.heap[b]? = some (.cells (rowS n A sp) t (0, 0))) :
    ((ext w x).setCell ⟨b, i, none⟩ (.int .u32 (val v))).heap[b]? = some (.cells (rowS n (upd A i v) sp) t (0, 0)) ∧
    w.grownBy ((ext w x).setCell ⟨b, i, none⟩ (.int .u32 (val v))) (some b) := by
  have hb := lt_of_heap h
  constructor
  · rw [← rowS_set A sp i hi]; exact heap_setCell ((ext_heap hb).trans h) _
  · exact (grown_ext w x _).trans (grown_setCell _ _ _ _)

/-! ### left -/
theorem left_bits (x : BitVec 32) (n : Nat) (hn : n ≤ 31) : ((x.setWidth 64 <<< n) ||| (x.setWidth 64 <<< n) >>> 32).setWidth 32 = rotl x n := by
  unfold rotl
  apply BitVec.eq_of_getLsbD_eq
  intro i hi
  simp only [BitVec.getLsbD_setWidth, BitVec.getLsbD_or, BitVec.getLsbD_shiftLeft, BitVec.getLsbD_ushiftRight]
  have h1 : decide (i < 32) = true := decide_eq_true hi
  have h2 : decide (i < 64) = true := decide_eq_true (by omega)
  have h3 : decide (32 + i < 64) = true := decide_eq_true (by omega)
  have h4 : decide (32 + i < n) = false := decide_eq_false (by omega)
  have h5 : decide (i - n < 64) = true := decide_eq_true (by omega)
  have h6 : decide (32 + i - n < 64) = true := decide_eq_true (by omega)
  rw [h1, h2, h3, h4, h5, h6, show 32 + i - n = 32 - n + i by omega]
  simp
theorem left_walk (x : BitVec 32) (n : Nat) (hn : n ≤ 31) : bits .or .u64 (val x * 2 ^ n) (val x * 2 ^ n / 4294967296) % 4294967296 = val (rotl x n) := by
  have hx : x.toNat < 4294967296 := x.isLt
  have hb : x.toNat * 2 ^ n < 18446744073709551616 := by
    have h2 : 2 ^ n ≤ 2147483648 := Nat.pow_le_pow_right (n := 2) (by omega) hn
    exact Nat.lt_of_le_of_lt (Nat.mul_le_mul (show x.toNat ≤ 4294967295 by omega) h2) (by decide)
  have e1 : (val x * 2 ^ n : Int) = ((x.setWidth 64 <<< n).toNat : Int) := by
    unfold val
    rw [BitVec.toNat_shiftLeft, BitVec.toNat_setWidth, Nat.shiftLeft_eq, Nat.mod_eq_of_lt (show x.toNat < 18446744073709551616 by omega), Nat.mod_eq_of_lt hb]
    push_cast; rfl
  have e2 : (val x * 2 ^ n / 4294967296 : Int) = (((x.setWidth 64 <<< n) >>> 32).toNat : Int) := by
    rw [e1, BitVec.toNat_ushiftRight, Nat.shiftRight_eq_div_pow]
    generalize (x.setWidth 64 <<< n).toNat = q
    show (q : Int) / 4294967296 = ((q / 4294967296 : Nat) : Int)
    omega
  rw [e2, e1, bits_or]
  show IntKind.u64.wrap ((BitVec.ofInt 64 _ ||| BitVec.ofInt 64 _).toNat : Int) % 4294967296 = _
  rw [ofInt_toNat, ofInt_toNat, ← left_bits x n hn, IntKind.wrap_u64]
  unfold val
  generalize (x.setWidth 64 <<< n ||| (x.setWidth 64 <<< n) >>> 32) = y
  rw [BitVec.toNat_setWidth]
  have hy : y.toNat < 18446744073709551616 := y.isLt
  show ((y.toNat : Nat) : Int) % 18446744073709551616 % 4294967296 = ((y.toNat % 4294967296 : Nat) : Int)
  omega

theorem cells4 {w : World} {b : Nat} {t : TypeId} {p q r s : Int} (h : w.heap[b]? = some (.cells #[.int .i64 p, .int .i64 q, .int .i64 r, .int .i64 s] t (0, 0))) :
    w.cell? ⟨b, 0, none⟩ = some (.int .i64 p) ∧ w.cell? ⟨b, 1, none⟩ = some (.int .i64 q) ∧ w.cell? ⟨b, 2, none⟩ = some (.int .i64 r) ∧ w.cell? ⟨b, 3, none⟩ = some (.int .i64 s) := by
  refine ⟨?_, ?_, ?_, ?_⟩ <;> (rw [cell_in, h]; rfl)

end Go.Proofs.YtgckpfeeioljeaaGreatDoor
namespace Go.Proofs.YtgckpfeeioljeaaGreatDoor
open Go.RowKit

/-- Numbers as cells. -/
def numsV (K : IntKind) (l : List Nat) : List Value := l.map fun n => .int K (n : Nat)
theorem numsV_append (K : IntKind) (l m : List Nat) : numsV K (l ++ m) = numsV K l ++ numsV K m := by simp [numsV]
theorem numsV_length (K : IntKind) (l : List Nat) : (numsV K l).length = l.length := by simp [numsV]
theorem numsV_one (K : IntKind) (l : List Nat) : ∀ u ∈ numsV K l, u.oneCell' = true := by
  intro u hu
  simp only [numsV, List.mem_map] at hu
  obtain ⟨b, _, rfl⟩ := hu
  rfl
/-- The slice 'v', the call's own (its block lies from 'base' on), holds the numbers 'l'. -/
def ownsN (w : World) (base : Nat) (E : TypeId) (K : IntKind) (v : Value) (l : List Nat) : Prop := w.ownsRow base E 1 v l.length (numsV K l)
theorem ownsN_nil (w : World) (base : Nat) (E : TypeId) (K : IntKind) : ownsN w base E K (.slice none 0 0) [] := World.ownsRow_nil _ _ _ _
theorem ownsN_form {w : World} {base : Nat} {E : TypeId} {K : IntKind} {v : Value} {l : List Nat} (h : ownsN w base E K v l) :
    (v = .slice none 0 0 ∧ l = []) ∨ ∃ g cap, v = .slice (some ⟨g, 0, none⟩) l.length cap ∧ base ≤ g ∧ g < w.heap.size ∧ l.length ≤ cap ∧ cap ≤ maxLen ∧ ∀ i (hi : i < l.length), w.cell? ⟨g, i, none⟩ = some (.int K (l[i] : Nat)) := by
  obtain ⟨hl, ⟨rfl, h0⟩ | ⟨g, cap, cur, rfl, hb, hh, hn, hc, hsz, hx⟩⟩ := h
  · exact .inl ⟨rfl, List.length_eq_zero_iff.1 h0⟩
  · refine .inr ⟨g, cap, rfl, hb, lt_of_heap hh, hn, hc, fun i hi => ?_⟩
    rw [cell_in, hh]
    have h1 : (cur.toList.take (l.length * 1))[i]? = (numsV K l)[i]? := by rw [hx]
    rw [List.getElem?_take_of_lt (by omega)] at h1
    simp only [numsV, List.getElem?_map, List.getElem?_eq_getElem hi, Option.map_some, Array.getElem?_toList] at h1
    simp [cellIn, h1]
theorem ownsN_slice {w : World} {base : Nat} {E : TypeId} {K : IntKind} {v : Value} {l : List Nat} (h : ownsN w base E K v l) : ∃ p cap, v = .slice p l.length cap := by
  rcases ownsN_form h with ⟨rfl, rfl⟩ | ⟨g, cap, rfl, _⟩
  · exact ⟨_, _, rfl⟩
  · exact ⟨_, _, rfl⟩
theorem ownsN_base {w : World} {base : Nat} {E : TypeId} {K : IntKind} {v : Value} {l : List Nat} (h : ownsN w base E K v l) : ∀ g, v.ownBlock = some g → base ≤ g := by
  rcases ownsN_form h with ⟨rfl, _⟩ | ⟨g, cap, rfl, hb, _⟩
  · intro g hg; simp [Value.ownBlock] at hg
  · intro g' hg; simp only [Value.ownBlock, Option.some.injEq] at hg; omega
theorem ownsN_lt {w : World} {base : Nat} {E : TypeId} {K : IntKind} {v : Value} {l : List Nat} (h : ownsN w base E K v l) : ∀ g, v.ownBlock = some g → g < w.heap.size := by
  rcases ownsN_form h with ⟨rfl, _⟩ | ⟨g, cap, rfl, hb, hlt, _⟩
  · intro g hg; simp [Value.ownBlock] at hg
  · intro g' hg; simp only [Value.ownBlock, Option.some.injEq] at hg; omega
/-- What lies in other blocks may change. -/
theorem ownsN_kept {w w' : World} {base : Nat} {E : TypeId} {K : IntKind} {v : Value} {l : List Nat} {r : Option Nat} (h : ownsN w base E K v l) (hg : w.grownBy w' r) (hr : ∀ k, r = some k → v.ownBlock ≠ some k) : ownsN w' base E K v l := by
  obtain ⟨hl, ⟨rfl, h0⟩ | ⟨g, cap, cur, rfl, hb, hh, hn, hc, hsz, hx⟩⟩ := h
  · exact ⟨hl, .inl ⟨rfl, h0⟩⟩
  · exact ⟨hl, .inr ⟨g, cap, cur, rfl, hb, (hg.block g (lt_of_heap hh) (fun e => hr g e.symm rfl)).trans hh, hn, hc, hsz, hx⟩⟩
theorem ownsN_ext {w w' : World} {base : Nat} {E : TypeId} {K : IntKind} {v : Value} {l : List Nat} (h : ownsN w base E K v l) (hx : ∃ x, w' = ext w x) : ownsN w' base E K v l :=
  ownsN_kept h (grown_below (ext_iff.1 hx) none) (by rintro _ ⟨⟩)
/-- A block that was just laid. -/
theorem ownsN_row {w : World} {base g : Nat} {E : TypeId} {K : IntKind} {l : List Nat} (h : w.heap[g]? = some (.cells (numsV K l).toArray E (0, 0))) (hb : base ≤ g) (hl : l.length ≤ maxLen) : ownsN w base E K (.slice (some ⟨g, 0, none⟩) l.length l.length) l :=
  ⟨by rw [numsV_length, Nat.mul_one], .inr ⟨g, l.length, (numsV K l).toArray, rfl, hb, h, Nat.le_refl _, hl, by rw [List.size_toArray, numsV_length, Nat.mul_one], by rw [List.take_of_length_le]; rw [numsV_length, Nat.mul_one]; exact Nat.le_refl _⟩⟩
theorem ownsN_weak {w : World} {base b' : Nat} {E : TypeId} {K : IntKind} {v : Value} {l : List Nat} (h : ownsN w base E K v l) (hb' : b' ≤ base) : ownsN w b' E K v l := by
  obtain ⟨hl, ⟨rfl, h0⟩ | ⟨g, cap, cur, rfl, hb, h⟩⟩ := h
  · exact ⟨hl, .inl ⟨rfl, h0⟩⟩
  · exact ⟨hl, .inr ⟨g, cap, cur, rfl, by omega, h⟩⟩

section
variable {P : Program} {ops : Array Oper} {rest : List Oper} {o : Oper} {a : Act} {w : World} {Q : Exit → Act → World → Prop}
/-- 'append(v, x)' of one number, which lies in a block of its own, the newest. -/
theorem append_num (T E : TypeId) (K : IntKind) (bytes : Nat) (hT : P.underlying T = some (.slice E)) (hI : (P.info? E).map (fun i => (i.zero, i.size, i.bytes)) = some (some (.int K 0), 1, bytes)) (hby : bytes ≤ 8)
    (new : Nat) (base : Nat) (v : Value) (l : List Nat) (s x : Operand) (m : Int)
    (ho : o.op = .call { callee := .builtin .append, args := #[s, x], argTypes := #[T, T] }) (hgd : o.guard = none) (hs : a.eval s = v) (c : Nat)
    (hx : a.eval x = .slice (some ⟨w.heap.size, 0, none⟩) 1 c) (hm : m = (new : Nat)) (hown : ownsN w base E K v l) (hlen : l.length ≤ 1099511627776) (hbase : base ≤ w.heap.size)
    (h : ∀ v' w', ownsN w' base E K v' (l ++ [new]) → w.grownBy w' v.ownBlock → (v'.ownBlock = v.ownBlock ∨ v'.ownBlock = some (w.heap.size + 1)) → wpList P ops Q rest (a.put o.dst v') w') : wpList P ops Q (o :: rest) a (w.alloc (.cells #[.int K m] E)) := by
  subst hm
  obtain ⟨i0, hi, hz0, hz1, hz2⟩ := info_parts hI
  refine wpList_append_own_at _ hgd s x T ho base E i0 (.int K 0) 1 bytes hT hi hz0 hz1 hz2 rfl (by decide) v l.length (numsV K l) hs (World.ownsRow.alloc hown _)
    ⟨w.heap.size, 0, none⟩ 1 c (numsV K [new]) hx rfl ?_ (numsV_one K [new]) (by unfold maxLen; omega) ?_ (by simp; omega) ?_
  · intro j u hj
    have hadd : (⟨w.heap.size, 0, none⟩ : Addr).add j = ⟨w.heap.size, j, none⟩ := by unfold Addr.add; split <;> simp_all
    rw [hadd, World.cell?_alloc_new, show #[Value.int K (new : Nat)] = (numsV K [new]).toArray from rfl, List.getElem?_toArray]
    exact hj
  · have := Nat.mul_le_mul_left (l.length + 1) hby; omega
  · intro v' w' h1 h2 _ h4
    exact h v' w' (by unfold ownsN; rw [numsV_append, List.length_append]; exact h1) ((World.grownBy_alloc w _ _).trans h2) (by simpa using h4)
/-- 'append(v, x...)' of a slice's numbers. -/
theorem append_slice (T E : TypeId) (K : IntKind) (bytes : Nat) (hT : P.underlying T = some (.slice E)) (hI : (P.info? E).map (fun i => (i.zero, i.size, i.bytes)) = some (some (.int K 0), 1, bytes)) (hby : bytes ≤ 8)
    (base : Nat) (v : Value) (l : List Nat) (base2 : Nat) (l2 : List Nat) (g2 cap2 : Nat) (s x : Operand)
    (ho : o.op = .call { callee := .builtin .append, args := #[s, x], argTypes := #[T, T] }) (hgd : o.guard = none) (hs : a.eval s = v)
    (hx : a.eval x = .slice (some ⟨g2, 0, none⟩) l2.length cap2) (hown : ownsN w base E K v l) (hown2 : ownsN w base2 E K (.slice (some ⟨g2, 0, none⟩) l2.length cap2) l2) (hlen : l.length + l2.length ≤ 1099511627776) (hbase : base ≤ w.heap.size)
    (h : ∀ v' w', ownsN w' base E K v' (l ++ l2) → w.grownBy w' v.ownBlock → (v'.ownBlock = v.ownBlock ∨ v'.ownBlock = some w.heap.size) → wpList P ops Q rest (a.put o.dst v') w') : wpList P ops Q (o :: rest) a w := by
  obtain ⟨i0, hi, hz0, hz1, hz2⟩ := info_parts hI
  refine wpList_append_own_at _ hgd s x T ho base E i0 (.int K 0) 1 bytes hT hi hz0 hz1 hz2 rfl (by decide) v l.length (numsV K l) hs hown
    ⟨g2, 0, none⟩ l2.length cap2 (numsV K l2) hx (by rw [numsV_length, Nat.mul_one]) ?_ (numsV_one K l2) (by unfold maxLen; omega) ?_ hbase ?_
  · intro j u hj
    have hadd : (⟨g2, 0, none⟩ : Addr).add j = ⟨g2, j, none⟩ := by unfold Addr.add; split <;> simp_all
    rcases ownsN_form hown2 with ⟨h0, _⟩ | ⟨g, cap, hv, -, -, -, -, hc⟩
    · cases h0
    · obtain rfl : g2 = g := by injection hv with e1 e2 e3; injection e1 with e1; injection e1
      rw [hadd]
      simp only [numsV, List.getElem?_map, Option.map_eq_some_iff] at hj
      obtain ⟨n, hn, rfl⟩ := hj
      obtain ⟨hl, rfl⟩ := List.getElem?_eq_some_iff.1 hn
      exact hc j hl
  · have := Nat.mul_le_mul_left (l.length + l2.length) hby; omega
  · intro v' w' h1 h2 _ h4
    exact h v' w' (by unfold ownsN; rw [numsV_append, List.length_append]; exact h1) h2 h4
/-- 'make([]T, n)' of numbers. -/
theorem made_nums (K : IntKind) (n : Nat) : (madeCells (Value.int K 0).cells (n * 1)).toList = numsV K (List.replicate n 0) := by
  unfold madeCells numsV
  apply List.ext_getElem?
  intro i
  by_cases h : i < n
  · simp [Value.cells, Nat.mod_one, h]
  · simp [h]
end
end Go.Proofs.YtgckpfeeioljeaaGreatDoor
