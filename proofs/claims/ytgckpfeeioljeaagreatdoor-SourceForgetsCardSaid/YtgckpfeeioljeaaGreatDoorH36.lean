/- slices.Equal at rows. · A source and a reader of it, side by side. -/
import Derived.Test.YtgckpfeeioljeaaGreatDoorProg
import Derived.Test.YtgckpfeeioljeaaGreatDoorG22
import Derived.Test.YtgckpfeeioljeaaGreatDoorShelfT
import Derived.Shelf.SlicesQ.Equal
import Derived.Test.YtgckpfeeioljeaaGreatDoorG31
import Derived.Test.YtgckpfeeioljeaaGreatDoorG33
namespace Go.Proofs.YtgckpfeeioljeaaGreatDoor
open Go.RowKit Go.Shelf Go.Lib

theorem neC : NeqAt Tryz.prog 43 (fun x => .agg (cellVs x).toArray) cellEq := by
  refine ⟨fun x y w => ?_, GuardAt.agg _ (by kernel_rfl)⟩
  have u9 := Tryz.underlying9
  have a9 := Tryz.isAgg9
  have z9 := Tryz.sizeOf9
  have hS : Tryz.prog.underlying 43 = some (.struct (Tryz.prog.fieldsOf 43)) := by kernel_rfl
  have hp : Tryz.prog.stoodInHeld 43 = false := by kernel_rfl
  simp only [cellVs]
  rw [run_neq_struct, show (10000 : Nat) = 9999 + 1 from rfl, run_equalIn_agg w 9999 43 _ _ hS hp]
  simp only [Program.fieldsOf, Tryz.underlying43]
  unfold cellEq
  go_simp
  by_cases h1 : x.table.toList = y.table.toList <;> by_cases h2 : x.row.toList = y.row.toList <;> by_cases h3 : x.subject.toList = y.subject.toList <;> by_cases h4 : x.value.toList = y.value.toList <;> simp [h1, h2, h3, h4]
set_option maxRecDepth 100000 in
theorem eqC_none (q r : Option Addr) (c d : Nat) (w : World) : Calls Tryz.prog 17 #[.slice q 0 c, .slice r 0 d] w fun e w' => e = .returned (.bool true) ∧ w' = w := by
  go_enter Tryz.func17, Tryz.ntmps17
  go_wp2
  refine wp_loop_rounds 1 ?_
  rw [rounds_succ]
  go_wp2_with fail
  go_ret
  exact ⟨rfl, rfl⟩
set_option maxRecDepth 100000 in
theorem eqC_less (q r : Option Addr) (n m c d : Nat) (w : World) (hn : n ≠ m) : Calls Tryz.prog 17 #[.slice q n c, .slice r m d] w fun e w' => e = .returned (.bool false) ∧ w' = w := by
  have hnm' : ¬ ((n : Int) = m) := by omega
  go_enter Tryz.func17, Tryz.ntmps17
  go_wp2_with fail
  go_ret
  exact ⟨rfl, rfl⟩
theorem allEq_cells (l m : List Cell) : Lib.allEq cellEq l m = true ↔ l = m := by
  constructor
  · intro h
    by_cases hl : l.length = m.length
    · refine List.ext_getElem hl fun i h1 h2 => ?_
      by_cases he : cellEq l[i] m[i] = true
      · exact cellEq_iff.1 he
      · exfalso
        rw [Lib.allEq_elem cellEq l m i h1 h2 (by simp only [getElem!_pos, h1, h2]; simpa using he)] at h
        cases h
    · rw [Lib.allEq_len cellEq _ _ hl] at h; cases h
  · rintro rfl
    exact Lib.allEq_all cellEq l l rfl (fun j _ => cellEq_iff.2 rfl)
/-- Equal at rows. -/
theorem eqC_any (q r : Option Addr) (c d : Nat) (l m : List Cell) (w : World) (hl : l.length ≤ 9223372036854775807) (hm : m.length ≤ 9223372036854775807) (h1 : cellsIn w q l) (h2 : cellsIn w r m) :
    Calls Tryz.prog 17 #[.slice q l.length c, .slice r m.length d] w (Res (Lib.allEq cellEq l m) w) := by
  by_cases hlm : l.length = m.length
  · by_cases h0 : l.length = 0
    · have e1 := List.length_eq_zero_iff.1 h0
      have e2 := List.length_eq_zero_iff.1 (hlm.symm.trans h0)
      subst e1 e2
      exact (eqC_none q r c d w).mono fun e w' ⟨h1, h2⟩ => ⟨by rw [h1]; rfl, by rw [h2]; exact ext_refl w⟩
    · rcases h1 with rfl | ⟨b1, rfl, hb1, hc1⟩
      · exact absurd rfl h0
      · rcases h2 with rfl | ⟨b2, rfl, hb2, hc2⟩
        · exact absurd hlm h0
        · have h := AnyQ.slices_Equal Tryz.eqCells 4 isAggC sizeOfC cellVs (fun _ => rfl) cellEq neC b1 0 l.length c b2 0 m.length d l m w (Nat.le_refl _) (Nat.le_refl _) hl hm hc1 hc2
          rw [List.take_length, List.take_length] at h
          exact h.mono fun e w' ⟨h1, q, h2⟩ => ⟨h1, by rw [h2]; exact ext_drewN q (ext_refl w)⟩
  · exact (eqC_less q r _ _ c d w hlm).mono fun e w' ⟨h1, h2⟩ => ⟨by rw [h1, Lib.allEq_len cellEq _ _ hlm], by rw [h2]; exact ext_refl w⟩
end Go.Proofs.YtgckpfeeioljeaaGreatDoor
namespace Go.Proofs.YtgckpfeeioljeaaGreatDoor
open Go.RowKit Go.Shelf

/-- Read, at the record that comes next. -/
theorem read_next (x : Rec) (e : Ev) (w : World) (V D : Blk) (rb vb n nv : Nat) (sec : ByteArray) (many : ByteArray → Nat) (has : ByteArray → Bool) (R : RdM) (h : rdIn w D rb vb n R) (hv : vaultIn w V vb nv sec many has) (hG : Glob w (fun i => V i ∨ D i)) (ha : apart V D)
    (ht : isTold sec x e) (hm : x.gen ≤ (many x.subject : Nat)) (h1 : x.seq = R.seq + 1) (h2 : x.prev = R.mark) (hn : n ≤ 1048576) (hsq : R.seq < 1048576) :
    Calls Tryz.prog 52 #[.pointer (some ⟨rb, 0, none⟩), .agg (recV x)] w fun r w' => r = .returned .nilIface ∧ ∃ D', rdIn w' D' rb vb (n + 1) (readM many has R x e) ∧ step w w' D D' := by
  cases hl : lostR many has x with
  | true => exact read_lost x e w V D rb vb n nv sec many has R h hv hG ha ht hm h1 h2 hn hsq hl
  | false => exact read_kept x e w V D rb vb n nv sec many has R h hv hG ha ht hm h1 h2 hn hsq hl
structure twoIn (w0 w : World) (V F D : Blk) (sb vb rb n m : Nat) (S : SrcM) (R : RdM) : Prop where
  st : step w0 w none0 (fun i => F i ∨ D i)
  src : srcIn w V F sb vb n secS S
  rdr : rdIn w D rb vb m R
  ap : apart F D
theorem twoIn.ext {w0 w w' : World} {V F D : Blk} {sb vb rb n m : Nat} {S : SrcM} {R : RdM} (h : twoIn w0 w V F D sb vb rb n m S R) (hx : ∃ x, w' = Go.Proofs.YtgckpfeeioljeaaGreatDoor.ext w x) : twoIn w0 w' V F D sb vb rb n m S R :=
  ⟨h.st.trans (.of_ext _ hx), h.src.ext hx, h.rdr.ext hx, h.ap⟩
theorem twoIn.mono {w0 w : World} {V F D : Blk} {sb vb rb n m n' m' : Nat} {S : SrcM} {R : RdM} (h : twoIn w0 w V F D sb vb rb n m S R) (h1 : n ≤ n') (h2 : m ≤ m') : twoIn w0 w V F D sb vb rb n' m' S R :=
  ⟨h.st, h.src.mono h1, h.rdr.mono h2, h.ap⟩
theorem twoIn.turn {w0 w w' : World} {V F F' D : Blk} {sb vb rb n n' m : Nat} {S S' : SrcM} {R : RdM} (h : twoIn w0 w V F D sb vb rb n m S R) (hs : srcIn w' V F' sb vb n' secS S') (g : step w w' F F') : twoIn w0 w' V F' D sb vb rb n' m S' R :=
  ⟨h.st.trans ((g.lift (A := fun i => F i ∨ D i) (fun _ hi => .inl hi)).more (fun _ hi => hi.elim (fun h => .inl (.inr h)) (fun h => .inl (.inl (.inr h))))), hs, h.rdr.step g h.ap, g.apart h.ap h.rdr.lt⟩
theorem twoIn.read {w0 w w' : World} {V F D D' : Blk} {sb vb rb n m m' : Nat} {S : SrcM} {R R' : RdM} (h : twoIn w0 w V F D sb vb rb n m S R) (hr : rdIn w' D' rb vb m' R') (g : step w w' D D') : twoIn w0 w' V F D' sb vb rb n m' S R' :=
  ⟨h.st.trans ((g.lift (A := fun i => F i ∨ D i) (fun _ hi => .inr hi)).more (fun _ hi => hi.elim (fun h => .inl (.inl (.inl h))) (fun h => .inl (.inr h)))), h.src.step g h.ap.symm, hr, (g.apart h.ap.symm h.src.lt).symm⟩
theorem rows_shape {w : World} {base : Nat} {v : Value} {l : List Cell} (h : ownsCl w base v l) : ∃ q cap, v = .slice q l.length cap := by
  obtain ⟨_, ⟨h1, h2⟩ | ⟨g, cap, cur, h1, _⟩⟩ := h
  · exact ⟨none, 0, by rw [h1, h2]⟩
  · exact ⟨some ⟨g, 0, none⟩, cap, h1⟩
theorem sortC_len (T : List Cell) : (sortC T).length = T.length := (sortC_perm T).length_eq
theorem stepT_len (e : Ev) (T : List Cell) : (stepT e T).length ≤ T.length + 1 := by
  unfold stepT putT delT goneT
  split
  · rw [List.length_cons]
    exact Nat.succ_le_succ (List.length_filter_le _ _)
  · split
    · split
      · exact Nat.le_succ_of_le (List.length_filter_le _ _)
      · exact Nat.le_succ _
    · exact Nat.le_succ_of_le (List.length_filter_le _ _)
theorem tabN_len (ok : List Ev) (k : Nat) : (tabN ok k).length ≤ k := by
  induction k with
  | zero => exact Nat.le_refl _
  | succ k ih =>
    cases h : ok[k]? with
    | none => unfold tabN at *; rw [List.take_add_one, h]; simpa using Nat.le_succ_of_le ih
    | some e => rw [tabN_succ h]; exact Nat.le_trans (stepT_len e _) (Nat.succ_le_succ ih)
/-! ### The reader of all that is told -/
def rdSame (R : RunM) : RdM := ⟨R.ok.length, headR R.S.L, R.S.T, 0⟩
theorem rdSame_start : rdSame R0 = RD0 := rfl
theorem same_step {sec : ByteArray} {R : RunM} {e : Ev} (h : Runs sec R) (hx : doX R.S e = 0) :
    isTold sec (toldR sec R.S.many R.S.has R.S.L e) e ∧ (toldR sec R.S.many R.S.has R.S.L e).gen ≤ ((doS sec R.S e).many (toldR sec R.S.many R.S.has R.S.L e).subject : Nat) ∧
    (toldR sec R.S.many R.S.has R.S.L e).seq = (rdSame R).seq + 1 ∧ (toldR sec R.S.many R.S.has R.S.L e).prev = (rdSame R).mark ∧
    readM (doS sec R.S e).many (doS sec R.S e).has (rdSame R) (toldR sec R.S.many R.S.has R.S.L e) e = rdSame (run1 sec R e) := by
  have h' := h.step e
  unfold run1 at h' ⊢
  rw [if_pos hx] at h' ⊢
  have hL : (doS sec R.S e).L = R.S.L ++ [toldR sec R.S.many R.S.has R.S.L e] := by rw [doS_yes hx]
  have hT : (doS sec R.S e).T = stepT e R.S.T := by rw [doS_yes hx]
  have hi := h'.inv.told R.ok.length (toldR sec R.S.many R.S.has R.S.L e) e (by show (doS sec R.S e).L[_]? = _; rw [hL, ← h.inv.len]; simp) (by simp)
  dsimp only at hi
  obtain ⟨t1, t2, t3, t4, t5⟩ := hi
  rw [hL, ← h.inv.len, List.take_left] at t3
  rw [show (R.ok ++ [e]).drop (R.ok.length + 1) = [] from List.drop_eq_nil_of_le (by simp), goneIn_nil, Bool.and_false] at t5
  refine ⟨t1, t4, t2, t3, ?_⟩
  unfold readM rdSame
  dsimp only
  rw [if_neg (by rw [t5]; decide), if_neg (by rw [t5]; decide), hL, headR_snoc, hT, List.length_append, List.length_singleton]
end Go.Proofs.YtgckpfeeioljeaaGreatDoor
