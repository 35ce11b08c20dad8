/- slices.Equal at rows. · A source and a reader of it, side by side. · A table of the call's own: Apply, Get, Cells. oubliettekeep.applied (the walk). -/
import Derived.Test.YtafdigdopeahdaaGreatDoorProg
import Derived.Test.YtafdigdopeahdaaGreatDoorG29
import Derived.Test.YtafdigdopeahdaaGreatDoorShelfT
import Derived.Shelf.SlicesQ.Equal
import Derived.Test.YtafdigdopeahdaaGreatDoorG40
import Derived.Test.YtafdigdopeahdaaGreatDoorG42
import Derived.Test.YtafdigdopeahdaaGreatDoorG32
import Derived.Test.YtafdigdopeahdaaGreatDoorG34
import Derived.Test.YtafdigdopeahdaaGreatDoorG33
namespace Go.Proofs.YtafdigdopeahdaaGreatDoor
open Go.RowKit Go.Shelf Go.Lib

theorem neC : NeqAt Tryz.prog 45 (fun x => .agg (cellVs x).toArray) cellEq := by
  refine ⟨fun x y w => ?_, GuardAt.agg _ (by kernel_rfl)⟩
  have u9 := Tryz.underlying9
  have a9 := Tryz.isAgg9
  have z9 := Tryz.sizeOf9
  have hS : Tryz.prog.underlying 45 = some (.struct (Tryz.prog.fieldsOf 45)) := by kernel_rfl
  have hp : Tryz.prog.stoodInHeld 45 = false := by kernel_rfl
  simp only [cellVs]
  rw [run_neq_struct, show (10000 : Nat) = 9999 + 1 from rfl, run_equalIn_agg w 9999 45 _ _ hS hp]
  simp only [Program.fieldsOf, Tryz.underlying45]
  unfold cellEq
  go_simp
  by_cases h1 : x.table.toList = y.table.toList <;> by_cases h2 : x.row.toList = y.row.toList <;> by_cases h3 : x.subject.toList = y.subject.toList <;> by_cases h4 : x.value.toList = y.value.toList <;> simp [h1, h2, h3, h4]
set_option maxRecDepth 100000 in
theorem eqC_none (q r : Option Addr) (c d : Nat) (w : World) : Calls Tryz.prog 15 #[.slice q 0 c, .slice r 0 d] w fun e w' => e = .returned (.bool true) ∧ w' = w := by
  go_enter Tryz.func15, Tryz.ntmps15
  go_wp2
  refine wp_loop_rounds 1 ?_
  rw [rounds_succ]
  go_wp2_with fail
  go_ret
  exact ⟨rfl, rfl⟩
set_option maxRecDepth 100000 in
theorem eqC_less (q r : Option Addr) (n m c d : Nat) (w : World) (hn : n ≠ m) : Calls Tryz.prog 15 #[.slice q n c, .slice r m d] w fun e w' => e = .returned (.bool false) ∧ w' = w := by
  have hnm' : ¬ ((n : Int) = m) := by omega
  go_enter Tryz.func15, Tryz.ntmps15
  go_wp2_with fail
  go_ret
  exact ⟨rfl, rfl⟩
theorem allEq_cells (l m : List Cell) : Lib.allEq cellEq l m = true ↔ l = m := by
  constructor
  · intro h
    by_cases hl : l.length = m.length
    · refine List.ext_getElem hl fun i h1 h2 => ?_
      by_cases he : cellEq l[i] m[i] = true
      · exact cellEq_iff.1 he
      · exfalso
        rw [Lib.allEq_elem cellEq l m i h1 h2 (by simp only [getElem!_pos, h1, h2]; simpa using he)] at h
        cases h
    · rw [Lib.allEq_len cellEq _ _ hl] at h; cases h
  · rintro rfl
    exact Lib.allEq_all cellEq l l rfl (fun j _ => cellEq_iff.2 rfl)
/-- Equal at rows. -/
theorem eqC_any (q r : Option Addr) (c d : Nat) (l m : List Cell) (w : World) (hl : l.length ≤ 9223372036854775807) (hm : m.length ≤ 9223372036854775807) (h1 : cellsIn w q l) (h2 : cellsIn w r m) :
    Calls Tryz.prog 15 #[.slice q l.length c, .slice r m.length d] w (Res (Lib.allEq cellEq l m) w) := by
  by_cases hlm : l.length = m.length
  · by_cases h0 : l.length = 0
    · have e1 := List.length_eq_zero_iff.1 h0
      have e2 := List.length_eq_zero_iff.1 (hlm.symm.trans h0)
      subst e1 e2
      exact (eqC_none q r c d w).mono fun e w' ⟨h1, h2⟩ => ⟨by rw [h1]; rfl, by rw [h2]; exact ext_refl w⟩
    · rcases h1 with rfl | ⟨b1, rfl, hb1, hc1⟩
      · exact absurd rfl h0
      · rcases h2 with rfl | ⟨b2, rfl, hb2, hc2⟩
        · exact absurd hlm h0
        · have h := AnyQ.slices_Equal Tryz.eqCells 4 isAggC sizeOfC cellVs (fun _ => rfl) cellEq neC b1 0 l.length c b2 0 m.length d l m w (Nat.le_refl _) (Nat.le_refl _) hl hm hc1 hc2
          rw [List.take_length, List.take_length] at h
          exact h.mono fun e w' ⟨h1, q, h2⟩ => ⟨h1, by rw [h2]; exact ext_drewN q (ext_refl w)⟩
  · exact (eqC_less q r _ _ c d w hlm).mono fun e w' ⟨h1, h2⟩ => ⟨by rw [h1, Lib.allEq_len cellEq _ _ hlm], by rw [h2]; exact ext_refl w⟩
end Go.Proofs.YtafdigdopeahdaaGreatDoor
namespace Go.Proofs.YtafdigdopeahdaaGreatDoor
open Go.RowKit Go.Shelf

/-- Read, at the record that comes next. -/
theorem read_next (x : Rec) (e : Ev) (w : World) (V D : Blk) (rb vb n nv : Nat) (sec : ByteArray) (many : ByteArray → Nat) (has : ByteArray → Bool) (R : RdM) (h : rdIn w D rb vb n R) (hv : vaultIn w V vb nv sec many has) (hG : Glob w (fun i => V i ∨ D i)) (ha : apart V D)
    (ht : isTold sec x e) (hm : x.gen ≤ (many x.subject : Nat)) (h1 : x.seq = R.seq + 1) (h2 : x.prev = R.mark) (hn : n ≤ 1048576) (hsq : R.seq < 1048576) :
    Calls Tryz.prog 14 #[.pointer (some ⟨rb, 0, none⟩), .agg (recV x)] w fun r w' => r = .returned .nilIface ∧ ∃ D', rdIn w' D' rb vb (n + 1) (readM many has R x e) ∧ step w w' D D' := by
  cases hl : lostR many has x with
  | true => exact read_lost x e w V D rb vb n nv sec many has R h hv hG ha ht hm h1 h2 hn hsq hl
  | false => exact read_kept x e w V D rb vb n nv sec many has R h hv hG ha ht hm h1 h2 hn hsq hl
structure twoIn (w0 w : World) (V F D : Blk) (sb vb rb n m : Nat) (S : SrcM) (R : RdM) : Prop where
  st : step w0 w none0 (fun i => F i ∨ D i)
  src : srcIn w V F sb vb n secS S
  rdr : rdIn w D rb vb m R
  ap : apart F D
theorem twoIn.ext {w0 w w' : World} {V F D : Blk} {sb vb rb n m : Nat} {S : SrcM} {R : RdM} (h : twoIn w0 w V F D sb vb rb n m S R) (hx : ∃ x, w' = Go.Proofs.YtafdigdopeahdaaGreatDoor.ext w x) : twoIn w0 w' V F D sb vb rb n m S R :=
  ⟨h.st.trans (.of_ext _ hx), h.src.ext hx, h.rdr.ext hx, h.ap⟩
theorem twoIn.mono {w0 w : World} {V F D : Blk} {sb vb rb n m n' m' : Nat} {S : SrcM} {R : RdM} (h : twoIn w0 w V F D sb vb rb n m S R) (h1 : n ≤ n') (h2 : m ≤ m') : twoIn w0 w V F D sb vb rb n' m' S R :=
  ⟨h.st, h.src.mono h1, h.rdr.mono h2, h.ap⟩
theorem twoIn.turn {w0 w w' : World} {V F F' D : Blk} {sb vb rb n n' m : Nat} {S S' : SrcM} {R : RdM} (h : twoIn w0 w V F D sb vb rb n m S R) (hs : srcIn w' V F' sb vb n' secS S') (g : step w w' F F') : twoIn w0 w' V F' D sb vb rb n' m S' R :=
  ⟨h.st.trans ((g.lift (A := fun i => F i ∨ D i) (fun _ hi => .inl hi)).more (fun _ hi => hi.elim (fun h => .inl (.inr h)) (fun h => .inl (.inl (.inr h))))), hs, h.rdr.step g h.ap, g.apart h.ap h.rdr.lt⟩
theorem twoIn.read {w0 w w' : World} {V F D D' : Blk} {sb vb rb n m m' : Nat} {S : SrcM} {R R' : RdM} (h : twoIn w0 w V F D sb vb rb n m S R) (hr : rdIn w' D' rb vb m' R') (g : step w w' D D') : twoIn w0 w' V F D' sb vb rb n m' S R' :=
  ⟨h.st.trans ((g.lift (A := fun i => F i ∨ D i) (fun _ hi => .inr hi)).more (fun _ hi => hi.elim (fun h => .inl (.inl (.inl h))) (fun h => .inl (.inr h)))), h.src.step g h.ap.symm, hr, (g.apart h.ap.symm h.src.lt).symm⟩
theorem rows_shape {w : World} {base : Nat} {v : Value} {l : List Cell} (h : ownsCl w base v l) : ∃ q cap, v = .slice q l.length cap := by
  obtain ⟨_, ⟨h1, h2⟩ | ⟨g, cap, cur, h1, _⟩⟩ := h
  · exact ⟨none, 0, by rw [h1, h2]⟩
  · exact ⟨some ⟨g, 0, none⟩, cap, h1⟩
theorem sortC_len (T : List Cell) : (sortC T).length = T.length := (sortC_perm T).length_eq
theorem stepT_len (e : Ev) (T : List Cell) : (stepT e T).length ≤ T.length + 1 := by
  unfold stepT putT delT goneT
  split
  · rw [List.length_cons]
    exact Nat.succ_le_succ (List.length_filter_le _ _)
  · split
    · split
      · exact Nat.le_succ_of_le (List.length_filter_le _ _)
      · exact Nat.le_succ _
    · exact Nat.le_succ_of_le (List.length_filter_le _ _)
theorem tabN_len (ok : List Ev) (k : Nat) : (tabN ok k).length ≤ k := by
  induction k with
  | zero => exact Nat.le_refl _
  | succ k ih =>
    cases h : ok[k]? with
    | none => unfold tabN at *; rw [List.take_add_one, h]; simpa using Nat.le_succ_of_le ih
    | some e => rw [tabN_succ h]; exact Nat.le_trans (stepT_len e _) (Nat.succ_le_succ ih)
/-! ### The reader of all that is told -/
def rdSame (R : RunM) : RdM := ⟨R.ok.length, headR R.S.L, R.S.T, 0⟩
theorem rdSame_start : rdSame R0 = RD0 := rfl
theorem same_step {sec : ByteArray} {R : RunM} {e : Ev} (h : Runs sec R) (hx : doX R.S e = 0) :
    isTold sec (toldR sec R.S.many R.S.has R.S.L e) e ∧ (toldR sec R.S.many R.S.has R.S.L e).gen ≤ ((doS sec R.S e).many (toldR sec R.S.many R.S.has R.S.L e).subject : Nat) ∧
    (toldR sec R.S.many R.S.has R.S.L e).seq = (rdSame R).seq + 1 ∧ (toldR sec R.S.many R.S.has R.S.L e).prev = (rdSame R).mark ∧
    readM (doS sec R.S e).many (doS sec R.S e).has (rdSame R) (toldR sec R.S.many R.S.has R.S.L e) e = rdSame (run1 sec R e) := by
  have h' := h.step e
  unfold run1 at h' ⊢
  rw [if_pos hx] at h' ⊢
  have hL : (doS sec R.S e).L = R.S.L ++ [toldR sec R.S.many R.S.has R.S.L e] := by rw [doS_yes hx]
  have hT : (doS sec R.S e).T = stepT e R.S.T := by rw [doS_yes hx]
  have hi := h'.inv.told R.ok.length (toldR sec R.S.many R.S.has R.S.L e) e (by show (doS sec R.S e).L[_]? = _; rw [hL, ← h.inv.len]; simp) (by simp)
  dsimp only at hi
  obtain ⟨t1, t2, t3, t4, t5⟩ := hi
  rw [hL, ← h.inv.len, List.take_left] at t3
  rw [show (R.ok ++ [e]).drop (R.ok.length + 1) = [] from List.drop_eq_nil_of_le (by simp), goneIn_nil, Bool.and_false] at t5
  refine ⟨t1, t4, t2, t3, ?_⟩
  unfold readM rdSame
  dsimp only
  rw [if_neg (by rw [t5]; decide), if_neg (by rw [t5]; decide), hL, headR_snoc, hT, List.length_append, List.length_singleton]
end Go.Proofs.YtafdigdopeahdaaGreatDoor
namespace Go.Proofs.YtafdigdopeahdaaGreatDoor
open Go.RowKit

/-- A table that lies, with its map, from block m on. -/
def tabIn (m : Nat) (w0 w : World) (tb n : Nat) (T : List Cell) : Prop :=
  ∃ mb, tabAt w tb H0 mb n T ∧ m ≤ tb ∧ (∀ b, mb = some b → m ≤ b) ∧ Below m w0 w ∧ m ≤ w.heap.size
theorem tabIn.ext {m : Nat} {w0 w w' : World} {tb n : Nat} {T : List Cell} (h : tabIn m w0 w tb n T) (hx : ∃ x, w' = ext w x) : tabIn m w0 w' tb n T := by
  obtain ⟨mb, h1, h2, h3, h4, h5⟩ := h
  exact ⟨mb, h1.ext hx, h2, h3, h4.trans ((ext_iff.1 hx).mono h5), Nat.le_trans h5 (ext_iff.1 hx).size⟩
theorem tabIn.alloc {m : Nat} {w0 w : World} {tb n : Nat} {T : List Cell} (h : tabIn m w0 w tb n T) (o : Obj) : tabIn m w0 (w.alloc o) tb n T := h.ext (ext_alloc o (ext_refl w))
theorem tabIn.below {m : Nat} {w0 w : World} {tb n : Nat} {T : List Cell} (h : tabIn m w0 w tb n T) : Below m w0 w := by
  obtain ⟨mb, h1, h2, h3, h4, h5⟩ := h
  exact h4
theorem tabIn.once {m : Nat} {w0 w : World} {tb n : Nat} {T : List Cell} (h : tabIn m w0 w tb n T) : Once T := by
  obtain ⟨mb, h1, _⟩ := h
  exact h1.once
theorem tabIn.made {m : Nat} {w0 w : World} (hB : Below m w0 w) (hm : m ≤ w.heap.size) : tabIn m w0 (w.alloc (.cells #[.map none] 84)) w.heap.size 0 [] :=
  ⟨none, ⟨heap_alloc_at _ _, fun _ => rfl, fun b hb => by cases hb⟩, hm, (fun b hb => by cases hb), hB.alloc hm _, by simp; omega⟩
theorem apply_in (e : Ev) {m : Nat} {w0 w : World} {tb n : Nat} {T : List Cell} (h : tabIn m w0 w tb n T) (hn : n ≤ 1048576) (hz : e.subject.size ≤ 1048576 ∧ e.table.size ≤ 1048576 ∧ e.row.size ≤ 1048576) :
    Calls Tryz.prog 40 #[.pointer (some ⟨tb, 0, none⟩), .agg (evV e)] w fun x w' => x = .returned (if rightE okV e = true then .nilIface else errV 1) ∧ tabIn m w0 w' tb (n + 1) (applyT okV e T) := by
  obtain ⟨mb, h1, h2, h3, h4, h5⟩ := h
  refine (apply_any e w tb 0 H0 rfl mb n T h1 hn hz).mono ?_
  rintro x w' ⟨hx, mb', t1, t2, t3, k⟩
  refine ⟨hx, mb', t1, h2, ?_, ⟨k.os.trans h4.os, k.tape.trans h4.tape, k.output.trans h4.output, Nat.le_trans h4.size k.size, fun i hi => ?_⟩, Nat.le_trans h5 k.size⟩
  · intro b hb
    cases mb with
    | none => exact Nat.le_trans h5 (t3 rfl b hb)
    | some b0 =>
      have := t2 b0 rfl
      rw [this] at hb
      cases hb
      exact h3 _ rfl
  · refine (k.block i (Nat.lt_of_lt_of_le hi h5) (by omega) ?_).trans (h4.block i hi)
    intro e
    have := h3 i e.symm
    omega
theorem get_in (t r : ByteArray) {m : Nat} {w0 w : World} {tb n : Nat} {T : List Cell} (h : tabIn m w0 w tb n T) (ht : t.size ≤ maxLen) (hr : r.size ≤ maxLen) :
    Calls Tryz.prog 41 #[.pointer (some ⟨tb, 0, none⟩), .string t, .string r] w fun x w' => x = .returned (answG (txt t, txt r) T) ∧ ∃ x, w' = Go.Proofs.YtafdigdopeahdaaGreatDoor.ext w x := by
  obtain ⟨mb, h1, h2, h3, h4, h5⟩ := h
  exact get_any t r w tb 0 H0 rfl mb n T h1 ht hr
theorem cells_in {m : Nat} {w0 w : World} {tb n : Nat} {T : List Cell} (h : tabIn m w0 w tb n T) (hn : n ≤ 1048576) :
    Calls Tryz.prog 42 #[.pointer (some ⟨tb, 0, none⟩)] w (CellsPost w T) := by
  obtain ⟨mb, h1, h2, h3, h4, h5⟩ := h
  cases mb with
  | none =>
    obtain rfl := h1.nil rfl
    exact cells_nil w tb 0 H0 rfl n h1
  | some b => exact cells_some w tb 0 H0 rfl b n T h1 hn
/-! ### A fact -/
def annP : Ev := ⟨1, ⟨#[97, 110, 110]⟩, ⟨#[116]⟩, ⟨#[114]⟩, ⟨#[118]⟩⟩
def annG : Ev := ⟨3, ⟨#[97, 110, 110]⟩, ⟨#[]⟩, ⟨#[]⟩, ⟨#[]⟩⟩
theorem annP_right : rightE okV annP = true := by decide +kernel
theorem annG_right : rightE okV annG = true := by decide +kernel
theorem annP_T : applyT okV annP [] = [cellE annP] := by unfold applyT; rw [if_pos annP_right]; rfl
theorem annG_T : applyT okV annG [cellE annP] = [] := by
  unfold applyT; rw [if_pos annG_right]
  rfl
theorem ann_find : answG (txt ⟨#[116]⟩, txt ⟨#[114]⟩) [cellE annP] = .tuple #[.agg (cellA (cellE annP)), .nilIface] := rfl
set_option maxRecDepth 100000 in
set_option maxHeartbeats 1000000 in
theorem applied_any (w : World) : Calls Tryz.prog 9 #[] w (Res true w) := by
  have T0 := Lib.hid (tabIn.made (Below.refl w.heap.size w) (Nat.le_refl _))
  have AP := fun w1 h => apply_in annP (m := w.heap.size) (w0 := w) (w := w1) (tb := w.heap.size) (n := 0) (T := []) h (by decide) (by decide)
  have GT := fun w1 h => get_in ⟨#[116]⟩ ⟨#[114]⟩ (m := w.heap.size) (w0 := w) (w := w1) (tb := w.heap.size) (n := 1) (T := [cellE annP]) h (by decide) (by decide)
  have AG := fun w1 h => apply_in annG (m := w.heap.size) (w0 := w) (w := w1) (tb := w.heap.size) (n := 1) (T := [cellE annP]) h (by decide) (by decide)
  have CE := fun w1 h => cells_in (m := w.heap.size) (w0 := w) (w := w1) (tb := w.heap.size) (n := 2) (T := []) h (by decide)
  rw [annP_right, if_pos rfl, annP_T] at AP
  rw [annG_right, if_pos rfl, annG_T] at AG
  rw [ann_find] at GT
  unfold evV annP at AP
  unfold evV annG at AG
  unfold cellA cellE annP at GT
  dsimp only at AP AG GT
  go_enter Tryz.func9, Tryz.ntmps9
  go_wp2_with fail
  refine (AP _ T0.out).mono ?_
  rintro _ w1 ⟨rfl, T1⟩
  have T1 := Lib.hid T1
  clear T0 AP
  go_wp2_with fail
  refine (GT _ T1.out).mono ?_
  rintro _ w2 ⟨rfl, hx⟩
  have T2 := Lib.hid (T1.out.ext hx)
  clear T1 GT hx
  go_wp2_with fail
  refine (AG _ (T2.out.alloc _)).mono ?_
  rintro _ w3 ⟨rfl, T3⟩
  have T3 := Lib.hid T3
  clear AG T2
  go_wp2_with fail
  refine (CE _ T3.out).mono ?_
  rintro _ w4 ⟨v, l, rfl, hp, _, _, hv, hB⟩
  obtain rfl := hp.eq_nil
  obtain rfl := hv.2 rfl
  have X4 := Lib.hid (ext_of (T3.out.below.trans (hB.mono T3.out.below.size)))
  clear hp hv hB CE
  go_wp2_with fail
  go_ret
  exact ⟨by simp, X4.out⟩
end Go.Proofs.YtafdigdopeahdaaGreatDoor
