/- A reader of what was told: plain laws. · A reader in memory: New, At, Lost, Cells (the walks). · (*reader.Reader).Read: a record that was read, or that lacks one ahead. -/
import Derived.Test.YtgckpfeeioljeaaGreatDoorG28
import Derived.Test.YtgckpfeeioljeaaGreatDoorProg
import Derived.Test.YtgckpfeeioljeaaGreatDoorG27
namespace Go.Proofs.YtgckpfeeioljeaaGreatDoor

/-! ### Tables behind events that were done -/
def tabN (ok : List Ev) (k : Nat) : List Cell := (ok.take k).foldl (fun T e => stepT e T) []
theorem tabN_zero (ok : List Ev) : tabN ok 0 = [] := rfl
theorem tabN_succ {ok : List Ev} {k : Nat} {e : Ev} (h : ok[k]? = some e) : tabN ok (k + 1) = stepT e (tabN ok k) := by
  unfold tabN; rw [List.take_add_one, h, Option.toList_some, List.foldl_append]; rfl
theorem tabN_append {ok m : List Ev} {k : Nat} (h : k ≤ ok.length) : tabN (ok ++ m) k = tabN ok k := by
  unfold tabN; rw [List.take_append_of_le_length h]
theorem tabN_once (ok : List Ev) (k : Nat) : Once (tabN ok k) := by
  induction k with
  | zero => exact List.Pairwise.nil
  | succ k ih =>
    cases h : ok[k]? with
    | none => unfold tabN at *; rw [List.take_add_one, h]; simpa using ih
    | some e => rw [tabN_succ h]; exact ih.step e
theorem stepT_put {e : Ev} (h : e.kind = 1) (T : List Cell) : stepT e T = putT (cellE e) T := by unfold stepT; rw [if_pos h]
theorem stepT_del {e : Ev} (h : e.kind = 2) {T : List Cell} {c : Cell} (hc : findT (ek e) T = some c) (hs : txt c.subject = txt e.subject) : stepT e T = delT (ek e) T := by
  unfold stepT; rw [if_neg (by omega), if_pos h, hc, if_pos (by exact hs)]
theorem stepT_gone {e : Ev} (h : e.kind = 3) (T : List Cell) : stepT e T = goneT (txt e.subject) T := by unfold stepT; rw [if_neg (by omega), if_neg (by omega)]
/-- An event that may be done where those rows are. -/
structure accT (T : List Cell) (e : Ev) : Prop where
  right : rightE okV e = true
  put : e.kind = 1 → ∀ c, findT (ek e) T = some c → txt c.subject = txt e.subject
  del : e.kind = 2 → ∃ c, findT (ek e) T = some c ∧ txt c.subject = txt e.subject
def Acc (ok : List Ev) : Prop := ∀ k e, ok[k]? = some e → accT (tabN ok k) e
/-- How a run's rows come. -/
structure Runs (sec : ByteArray) (R : RunM) : Prop where
  inv : Inv sec R.S R.ok
  tab : R.S.T = tabN R.ok R.ok.length
  acc : Acc R.ok
  rows : R.rows = (List.range (R.ok.length + 1)).map fun k => sortC (tabN R.ok k)
theorem Runs.start (sec : ByteArray) : Runs sec R0 := ⟨Inv.start sec, rfl, (fun _ _ h => by cases h), (by show [[]] = [sortC (tabN [] 0)]; rw [show sortC (tabN [] 0) = [] from sortC_nil.2 rfl])⟩
theorem Runs.step {sec : ByteArray} {R : RunM} (h : Runs sec R) (e : Ev) : Runs sec (run1 sec R e) := by
  unfold run1
  by_cases hx : doX R.S e = 0
  · rw [if_pos hx]
    obtain ⟨hT, hput, hdel⟩ := doX_tell hx
    have hS : (doS sec R.S e).T = tabN (R.ok ++ [e]) (R.ok.length + 1) := by
      rw [doS_yes hx, tabN_succ (by simp : (R.ok ++ [e])[R.ok.length]? = some e), tabN_append (Nat.le_refl _), ← h.tab]
    refine ⟨h.inv.step hx, ?_, ?_, ?_⟩
    · dsimp only
      rw [hS, List.length_append, List.length_singleton]
    · intro k x hk
      dsimp only at hk ⊢
      by_cases hlt : k < R.ok.length
      · rw [List.getElem?_append_left hlt] at hk
        rw [tabN_append (Nat.le_of_lt hlt)]
        exact h.acc k x hk
      · have hl := (List.getElem?_eq_some_iff.1 hk).1
        simp at hl
        obtain rfl : k = R.ok.length := by omega
        rw [List.getElem?_append_right (Nat.le_refl _)] at hk
        simp only [Nat.sub_self, List.getElem?_cons_zero, Option.some.injEq] at hk
        subst hk
        rw [tabN_append (Nat.le_refl _), ← h.tab]
        exact ⟨(tellX_right hT).1, hput, hdel⟩
    · dsimp only
      rw [List.length_append, List.length_singleton, List.range_succ, List.map_append, List.map_cons, List.map_nil, ← hS]
      congr 1
      rw [h.rows]
      apply List.map_congr_left
      intro k hk
      rw [tabN_append (by have := List.mem_range.1 hk; omega)]
  · rw [if_neg hx]; exact h
theorem Runs.run {sec : ByteArray} : ∀ (l : List Ev) (R : RunM), Runs sec R → Runs sec (l.foldl (run1 sec) R)
  | [], _, h => h
  | e :: l, _, h => Runs.run l _ (h.step e)
theorem runs (sec : ByteArray) (l : List Ev) : Runs sec (runM sec l) := Runs.run l R0 (Runs.start sec)
/-! ### A reader -/
structure RdM where
  seq : Nat
  mark : ByteArray
  T : List Cell
  lost : Nat
def RD0 : RdM := ⟨0, noneS, [], 0⟩
def readM (many : ByteArray → Nat) (has : ByteArray → Bool) (R : RdM) (r : Rec) (e : Ev) : RdM :=
  ⟨R.seq + 1, mkS (mkB r), if lostR many has r = true then R.T else stepT e R.T, if lostR many has r = true then R.lost + 1 else R.lost⟩
/-- A reader that has read k of them. -/
def follN (many : ByteArray → Nat) (has : ByteArray → Bool) (L : List Rec) (ok : List Ev) (R : RdM) (k : Nat) : RdM := ((L.zip ok).take k).foldl (fun R p => readM many has R p.1 p.2) R
theorem follN_succ {many : ByteArray → Nat} {has : ByteArray → Bool} {L : List Rec} {ok : List Ev} {R : RdM} {k : Nat} {r : Rec} {e : Ev} (h1 : L[k]? = some r) (h2 : ok[k]? = some e) :
    follN many has L ok R (k + 1) = readM many has (follN many has L ok R k) r e := by
  unfold follN
  have : (L.zip ok)[k]? = some (r, e) := by rw [List.getElem?_zip_eq_some]; exact ⟨h1, h2⟩
  rw [List.take_add_one, this, Option.toList_some, List.foldl_append]; rfl
/-- How many are lost of the first k. -/
def lostN (ok : List Ev) : Nat → Nat
  | 0 => 0
  | k + 1 => lostN ok k + (match ok[k]? with | some e => if (decide (e.kind ≠ 3) && goneIn (ok.drop (k + 1)) e.subject) = true then 1 else 0 | none => 0)
theorem mem_filter_gone {T : List Cell} {p : ByteArray → Bool} {c : Cell} (h : c ∈ T.filter fun c => !p c.subject) : c ∈ T ∧ p c.subject = false := by
  have := List.mem_filter.1 h
  exact ⟨this.1, by simpa using this.2⟩
theorem del_gone {T : List Cell} {e : Ev} {p : ByteArray → Bool} (ho : Once T) (h : ∀ c, findT (ek e) T = some c → txt c.subject = txt e.subject) (hp : p e.subject = true) :
    (delT (ek e) T).filter (fun c => !p c.subject) = T.filter fun c => !p c.subject := by
  unfold delT
  rw [List.filter_filter]
  apply List.filter_congr
  intro c hc
  by_cases hk : ck c = ek e
  · have h1 := find_some ho hc
    rw [hk] at h1
    have h2 := h c h1
    rw [txt_inj h2, hp]; simp
  · simp [hk]
theorem late_step {T : List Cell} {e : Ev} {p q : ByteArray → Bool} (ho : Once T) (ha : accT T e) (hpq : ∀ s, q s = ((decide (e.kind = 3) && decide (txt e.subject = txt s)) || p s)) :
    (if (decide (e.kind ≠ 3) && p e.subject) = true then T.filter (fun c => !q c.subject) else stepT e (T.filter fun c => !q c.subject)) = (stepT e T).filter fun c => !p c.subject := by
  have hkind := kind_cases ha.right
  by_cases hk3 : e.kind = 3
  · rw [if_neg (by simp [hk3])]
    rw [stepT_gone hk3, stepT_gone hk3]
    unfold goneT
    rw [List.filter_filter, List.filter_filter]
    apply List.filter_congr
    intro c _
    rw [hpq]
    by_cases hs : txt c.subject = txt e.subject
    · simp [hs]
    · have : ¬ txt e.subject = txt c.subject := fun e1 => hs e1.symm
      simp [hs, this]
  · have hq : q = p := funext fun s => by rw [hpq]; simp [hk3]
    subst hq
    by_cases hg : q e.subject = true
    · rw [if_pos (by simp [hk3, hg])]
      rcases hkind with hk | hk | hk
      · rw [stepT_put hk]
        unfold putT
        rw [List.filter_cons, if_neg (by show ¬ (!q e.subject) = true; rw [hg]; simp)]
        exact (del_gone ho (ha.put hk) hg).symm
      · obtain ⟨c, hc, hs⟩ := ha.del hk
        rw [stepT_del hk hc hs]
        exact (del_gone ho (fun d hd => by rw [hc] at hd; cases hd; exact hs) hg).symm
      · exact absurd hk hk3
    · rw [if_neg (by simp [hg])]
      rcases hkind with hk | hk | hk
      · rw [stepT_put hk, stepT_put hk]
        unfold putT delT
        rw [List.filter_cons, if_pos (by show (!q e.subject) = true; simp [hg]), List.filter_filter, List.filter_filter]
        congr 1
        apply List.filter_congr
        intro c _
        exact Bool.and_comm _ _
      · obtain ⟨c, hc, hs⟩ := ha.del hk
        obtain ⟨hm, hck⟩ := find_mem hc
        have hf : findT (ek e) (T.filter fun c => !q c.subject) = some c := by
          have := find_some (ho.filter fun c => !q c.subject) (List.mem_filter.2 ⟨hm, by rw [txt_inj hs]; simp [hg]⟩)
          rw [hck] at this; exact this
        rw [stepT_del hk hf hs, stepT_del hk hc hs]
        unfold delT
        rw [List.filter_filter, List.filter_filter]
        apply List.filter_congr
        intro c _
        exact Bool.and_comm _ _
      · exact absurd hk hk3
/-- Who comes late. -/
theorem late {sec : ByteArray} {R : RunM} (h : Runs sec R) : ∀ k, k ≤ R.ok.length →
    (follN R.S.many R.S.has R.S.L R.ok RD0 k).seq = k ∧ (follN R.S.many R.S.has R.S.L R.ok RD0 k).mark = headR (R.S.L.take k) ∧
    (follN R.S.many R.S.has R.S.L R.ok RD0 k).T = (tabN R.ok k).filter (fun c => !goneIn (R.ok.drop k) c.subject) ∧ (follN R.S.many R.S.has R.S.L R.ok RD0 k).lost = lostN R.ok k := by
  intro k
  induction k with
  | zero => intro _; exact ⟨rfl, rfl, rfl, rfl⟩
  | succ k ih =>
    intro hk
    obtain ⟨i1, i2, i3, i4⟩ := ih (by omega)
    have hr : R.S.L[k]? = some (R.S.L[k]'(by rw [h.inv.len]; omega)) := List.getElem?_eq_getElem _
    have he : R.ok[k]? = some (R.ok[k]'(by omega)) := List.getElem?_eq_getElem _
    generalize (R.S.L[k]'(by rw [h.inv.len]; omega)) = r at hr
    generalize (R.ok[k]'(by omega)) = e at he
    obtain ⟨t1, t2, t3, t4, t5⟩ := h.inv.told k r e hr he
    rw [follN_succ hr he]
    unfold readM
    dsimp only
    rw [i1, i3, i4, t5]
    refine ⟨rfl, ?_, ?_, ?_⟩
    · rw [List.take_add_one, hr, Option.toList_some, headR_snoc]
    · rw [tabN_succ he]
      refine late_step (tabN_once _ _) (h.acc k e he) (fun s => ?_)
      have hd : R.ok.drop k = e :: R.ok.drop (k + 1) := by
        rw [List.drop_eq_getElem_cons (by omega)]
        congr 1
        have := List.getElem?_eq_getElem (l := R.ok) (i := k) (by omega)
        rw [he] at this
        exact (Option.some.inj this).symm
      rw [hd, goneIn_cons]
    · show _ = lostN R.ok k + _
      rw [he]
      dsimp only
      split <;> rfl
end Go.Proofs.YtgckpfeeioljeaaGreatDoor
namespace Go.Proofs.YtgckpfeeioljeaaGreatDoor
open Go.RowKit Go.Shelf

abbrev HR (vb : Nat) (seq : Nat) (mark : ByteArray) (lost : Nat) : Hole := ⟨[.pointer (some ⟨vb, 0, none⟩), .int .i64 seq, .string mark], [.int .i64 lost], 98⟩
/-- A reader: D names its blocks; vb: its vault. -/
structure rdAt (w : World) (D : Blk) (rb vb n : Nat) (R : RdM) (tm : Option Nat) : Prop where
  tab : tabAt w rb (HR vb R.seq R.mark R.lost) tm n R.T
  rb_ : D rb
  tm_ : ∀ b, tm = some b → D b
  lt : ∀ i, D i → i < w.heap.size
  sq : R.seq ≤ 1048576
  lo : R.lost ≤ R.seq
def rdIn (w : World) (D : Blk) (rb vb n : Nat) (R : RdM) : Prop := ∃ tm, rdAt w D rb vb n R tm
theorem rdIn.same {w w' : World} {D : Blk} {rb vb n : Nat} {R : RdM} (h : rdIn w D rb vb n R) (hk : ∀ i, D i → w'.heap[i]? = w.heap[i]?) (hs : w.heap.size ≤ w'.heap.size) : rdIn w' D rb vb n R := by
  obtain ⟨tm, h⟩ := h
  exact ⟨tm, h.tab.same (hk _ h.rb_) (fun b hb => hk _ (h.tm_ b hb)), h.rb_, h.tm_, fun i hi => Nat.lt_of_lt_of_le (h.lt i hi) hs, h.sq, h.lo⟩
theorem rdIn.lt {w : World} {D : Blk} {rb vb n : Nat} {R : RdM} (h : rdIn w D rb vb n R) : ∀ i, D i → i < w.heap.size := by
  obtain ⟨tm, h⟩ := h
  exact h.lt
theorem rdIn.ext {w w' : World} {D : Blk} {rb vb n : Nat} {R : RdM} (h : rdIn w D rb vb n R) (hx : ∃ x, w' = Go.Proofs.YtgckpfeeioljeaaGreatDoor.ext w x) : rdIn w' D rb vb n R :=
  h.same (fun i hi => (ext_iff.1 hx).block i (h.lt i hi)) (ext_iff.1 hx).size
theorem rdIn.step {w w' : World} {D G G' : Blk} {rb vb n : Nat} {R : RdM} (h : rdIn w D rb vb n R) (g : Go.Proofs.YtgckpfeeioljeaaGreatDoor.step w w' G G') (ha : apart G D) : rdIn w' D rb vb n R :=
  h.same (g.kept ha h.lt) g.size
theorem rdIn.mono {w : World} {D : Blk} {rb vb n n' : Nat} {R : RdM} (h : rdIn w D rb vb n R) (hn : n ≤ n') : rdIn w D rb vb n' R := by
  obtain ⟨tm, h⟩ := h
  exact ⟨tm, h.tab.mono hn, h.rb_, h.tm_, h.lt, h.sq, h.lo⟩
theorem rdIn.once {w : World} {D : Blk} {rb vb n : Nat} {R : RdM} (h : rdIn w D rb vb n R) : Once R.T := by
  obtain ⟨tm, h⟩ := h
  exact h.tab.once
theorem rd_cells {w : World} {rb vb n : Nat} {sq lo : Nat} {mk : ByteArray} {T : List Cell} {tm : Option Nat} (h : tabAt w rb (HR vb sq mk lo) tm n T) :
    w.cell? ⟨rb, 0, none⟩ = some (.pointer (some ⟨vb, 0, none⟩)) ∧ w.cell? ⟨rb, 1, none⟩ = some (.int .i64 sq) ∧ w.cell? ⟨rb, 2, none⟩ = some (.string mk) ∧ w.cell? ⟨rb, 4, none⟩ = some (.int .i64 lo) ∧ rb < w.heap.size := by
  refine ⟨?_, ?_, ?_, ?_, lt_of_heap h.blk⟩ <;> (rw [cell_in, h.blk]; rfl)
set_option maxRecDepth 100000 in
theorem rnew_any (vb : Nat) (w : World) : Calls Tryz.prog 51 #[.pointer (some ⟨vb, 0, none⟩)] w fun r w' => ∃ rb D, r = .returned (.tuple #[.pointer (some ⟨rb, 0, none⟩), .nilIface]) ∧ rdIn w' D rb vb 0 RD0 ∧ step w w' none0 D ∧ ∃ x, w' = ext w x := by
  go_enter Tryz.func51, Tryz.ntmps51
  go_wp2_with fail
  go_ret2
  refine ⟨w.heap.size, fun i => i = w.heap.size, rfl, ⟨none, ⟨heap_alloc_at w _, (fun _ => rfl), (fun b hb => by cases hb)⟩, rfl, (fun b hb => by cases hb), (by rintro i rfl; simp), by decide, by decide⟩, ?_, ext_alloc _ (ext_refl _)⟩
  refine (step.alloc w _ none0).more ?_
  rintro i rfl
  exact .inr ⟨Nat.le_refl _, by simp⟩
set_option maxRecDepth 100000 in
theorem rlost_any (w : World) (D : Blk) (rb vb n : Nat) (R : RdM) (h : rdIn w D rb vb n R) :
    Calls Tryz.prog 19 #[.pointer (some ⟨rb, 0, none⟩)] w fun r w' => r = .returned (.int .i64 R.lost) ∧ w = w' := by
  obtain ⟨tm, h⟩ := h
  obtain ⟨c0, c1, c2, c4, lt⟩ := rd_cells h.tab
  clear h
  go_enter Tryz.func19, Tryz.ntmps19
  go_wp2_with fail
  go_ret
  exact ⟨rfl, rfl⟩
set_option maxRecDepth 100000 in
theorem rcells_any (w : World) (D : Blk) (rb vb n : Nat) (R : RdM) (h : rdIn w D rb vb n R) (hn : n ≤ 1048576) :
    Calls Tryz.prog 18 #[.pointer (some ⟨rb, 0, none⟩)] w (RowsPost w R.T) := by
  obtain ⟨tm, h⟩ := h
  have CE := cells_any w rb 3 (HR vb R.seq R.mark R.lost) rfl tm n R.T h.tab hn
  obtain ⟨c0, c1, c2, c4, lt⟩ := rd_cells h.tab
  clear h
  go_enter Tryz.func18, Tryz.ntmps18
  go_wp2_with fail
  refine CE.mono ?_
  rintro _ w1 ⟨v, rfl, h2⟩
  have H2 := Lib.hid h2
  clear h2 CE
  go_wp2_with fail
  go_ret
  exact ⟨v, rfl, H2.out⟩
end Go.Proofs.YtgckpfeeioljeaaGreatDoor
namespace Go.Proofs.YtgckpfeeioljeaaGreatDoor
open Go.RowKit Go.Shelf

set_option maxRecDepth 100000 in
set_option maxHeartbeats 1000000 in
theorem read_old (x : Rec) (w : World) (D : Blk) (rb vb n : Nat) (R : RdM) (h : rdIn w D rb vb n R) (h1 : 1 ≤ x.seq) (h2 : x.seq ≤ R.seq) :
    Calls Tryz.prog 52 #[.pointer (some ⟨rb, 0, none⟩), .agg (recV x)] w fun r w' => r = .returned .nilIface ∧ ∃ x, w' = ext w x := by
  obtain ⟨tm, h⟩ := h
  have B0 := Lib.hid h.tab
  have hq := h.sq
  clear h
  obtain ⟨q, s, g, p, b⟩ := x
  unfold recV
  dsimp only at h1 h2 ⊢
  have X1 := Lib.hid (ext_alloc (.cells #[.int .i64 q, .string s, .int .i64 g, .string p, .string b] 55) (ext_refl w))
  have HE := Lib.hid (heap_alloc_at w (.cells #[.int .i64 q, .string s, .int .i64 g, .string p, .string b] 55))
  have B1 := Lib.hid (B0.out.ext X1.out)
  clear B0
  have d1 : decide (q ≥ 1) = true := decide_eq_true h1
  have d2 : decide (q ≤ (R.seq : Int)) = true := decide_eq_true h2
  go_enter Tryz.func52, Tryz.ntmps52
  go_wp2_with fail
  generalize w.alloc (.cells #[.int .i64 q, .string s, .int .i64 g, .string p, .string b] 55) = w1 at HE X1 B1 ⊢
  obtain ⟨c0, c1, c2, c3, c4⟩ := rec_cells (r := ⟨q, s, g, p, b⟩) HE.out
  dsimp only at c0 c1 c2 c3 c4
  have le := lt_of_heap HE.out
  obtain ⟨z0, z1, z2, z4, lt⟩ := rd_cells B1.out
  refine wp_region_ext (by kernel_rfl) (by kernel_rfl) ?_
  repeat (go_big_quiet_step (fail))
  refine wpQuiet_nil ?_
  rintro _ ⟨x, rfl⟩
  have HX := Lib.hid (ext_trans X1.out ⟨x, rfl⟩)
  generalize ext w1 x = wx at HX ⊢
  go_wp2_with fail
  go_ret
  exact ⟨rfl, HX.out⟩
set_option maxRecDepth 100000 in
set_option maxHeartbeats 1000000 in
theorem read_far (x : Rec) (w : World) (D : Blk) (rb vb n : Nat) (R : RdM) (h : rdIn w D rb vb n R) (h2 : R.seq + 1 < x.seq) :
    Calls Tryz.prog 52 #[.pointer (some ⟨rb, 0, none⟩), .agg (recV x)] w fun r w' => r = .returned (errV 10) ∧ ∃ x, w' = ext w x := by
  obtain ⟨tm, h⟩ := h
  have B0 := Lib.hid h.tab
  have hq := h.sq
  clear h
  obtain ⟨q, s, g, p, b⟩ := x
  unfold recV
  dsimp only at h2 ⊢
  have X1 := Lib.hid (ext_alloc (.cells #[.int .i64 q, .string s, .int .i64 g, .string p, .string b] 55) (ext_refl w))
  have HE := Lib.hid (heap_alloc_at w (.cells #[.int .i64 q, .string s, .int .i64 g, .string p, .string b] 55))
  have B1 := Lib.hid (B0.out.ext X1.out)
  clear B0
  have d1 : decide (q ≥ 1) = true := decide_eq_true (by omega)
  have d2 : decide (q ≤ (R.seq : Int)) = false := decide_eq_false (by omega)
  have d3 : (q != (R.seq : Int) + 1) = true := by simp; omega
  have d4 : (q == (R.seq : Int) + 1) = false := by simp; omega
  go_enter Tryz.func52, Tryz.ntmps52
  go_wp2_with fail
  generalize w.alloc (.cells #[.int .i64 q, .string s, .int .i64 g, .string p, .string b] 55) = w1 at HE X1 B1 ⊢
  obtain ⟨c0, c1, c2, c3, c4⟩ := rec_cells (r := ⟨q, s, g, p, b⟩) HE.out
  dsimp only at c0 c1 c2 c3 c4
  have le := lt_of_heap HE.out
  obtain ⟨z0, z1, z2, z4, lt⟩ := rd_cells B1.out
  refine wp_region_ext (by kernel_rfl) (by kernel_rfl) ?_
  repeat (go_big_quiet_step (fail))
  refine wpQuiet_nil ?_
  rintro _ ⟨x, rfl⟩
  have X2 := Lib.hid (ext_trans X1.out ⟨x, rfl⟩)
  have B2 := Lib.hid (B1.out.ext ⟨x, rfl⟩)
  have HE2 := Lib.hid ((ext_iff.1 ⟨x, rfl⟩ : Below w1.heap.size w1 (ext w1 x)).block _ (lt_of_heap HE.out) |>.trans HE.out)
  generalize ext w1 x = w2 at X2 B2 HE2 ⊢
  clear c0 c1 c2 c3 c4 z0 z1 z2 z4 lt le
  obtain ⟨c0, c1, c2, c3, c4⟩ := rec_cells (r := ⟨q, s, g, p, b⟩) HE2.out
  dsimp only at c0 c1 c2 c3 c4
  have le := lt_of_heap HE2.out
  obtain ⟨z0, z1, z2, z4, lt⟩ := rd_cells B2.out
  go_wp2_with fail
  refine wp_region_ext (by kernel_rfl) (by kernel_rfl) ?_
  repeat (go_big_quiet_step (fail))
  refine wpQuiet_nil ?_
  rintro _ ⟨x, rfl⟩
  have HX := Lib.hid (ext_trans X2.out ⟨x, rfl⟩)
  generalize ext w2 x = wx at HX ⊢
  go_wp2_with fail
  go_ret
  exact ⟨rfl, HX.out⟩
end Go.Proofs.YtgckpfeeioljeaaGreatDoor
