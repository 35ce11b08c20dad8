/- (*table.Table).Cells (the walk), for a table in whatever struct. · A source to which events happen, one behind the other: plain laws. · A reader of what was told: plain laws. · A reader that goes on: plain laws. -/
import Derived.Test.YtnkmckdefiblhaaGreatDoorProg
import Derived.Test.YtnkmckdefiblhaaGreatDoorG15
import Derived.Test.YtnkmckdefiblhaaGreatDoorG16
import Derived.Test.YtnkmckdefiblhaaGreatDoorG14
namespace Go.Proofs.YtnkmckdefiblhaaGreatDoor
open Go.RowKit Go.Shelf

/-- Rows that stand in order, none twice. -/
def Asc (l : List Cell) : Prop := l.Pairwise fun c d => kless (ck c) (ck d) = true
theorem Asc.once {l : List Cell} (h : Asc l) : Once l := h.imp fun {c d} hk e => by rw [e, kless_irrefl] at hk; cases hk
theorem Once.nodup {l : List Cell} (h : Once l) : l.Nodup := h.imp fun {_ _} hk e => hk (by rw [e])
theorem Once.perm {l m : List Cell} (h : Once l) (hp : m.Perm l) : Once m := (hp.pairwise_iff (fun {_ _} hne => Ne.symm hne)).2 h
theorem asc_eq {l m : List Cell} (hl : Asc l) (hm : Asc m) (hp : l.Perm m) : l = m :=
  hp.eq_of_pairwise (fun a b _ _ h1 h2 => by have := kless_trans h1 h2; rw [kless_irrefl] at this; cases this) hl hm
theorem sorted_asc {d d' : Array Cell} (ho : Once d.toList) (hp : Go.Sort.PermIn 0 d.size d d') (hs : Go.Sort.SortedIn (ltOf ccmp) 0 d.size d') : d'.toList.Perm d.toList ∧ Asc d'.toList := by
  have hp' : d'.toList.Perm d.toList := by
    have h := hp.2.2
    rw [show d.extract 0 d.size = d by simp, show d'.extract 0 d.size = d' by rw [← hp.1]; simp] at h
    exact h
  refine ⟨hp', ?_⟩
  have ho' := ho.perm hp'
  refine List.pairwise_iff_getElem.2 fun i j hi hj hij => ?_
  have h1 := List.pairwise_iff_getElem.1 ho' i j hi hj hij
  have hj' : j < d.size := by rw [← hp.1]; simpa using hj
  have hi' : i < d.size := by omega
  have h2 := hs i j (Nat.zero_le _) hij hj'
  rw [ltOf_ccmp] at h2
  have gi : d'[i]! = d'.toList[i] := by rw [getElem!_pos d' i (by simpa using hi)]; simp
  have gj : d'[j]! = d'.toList[j] := by rw [getElem!_pos d' j (by simpa using hj)]; simp
  rw [gi, gj] at h2
  cases hk : kless (ck d'.toList[i]) (ck d'.toList[j]) with
  | true => rfl
  | false => exact absurd (kless_total hk h2) h1
/-- What has been met. -/
def accOK (T : List Cell) (left : Lit → Bool) (acc : List Cell) : Prop := Once acc ∧ ∀ c, c ∈ acc ↔ c ∈ T ∧ left (keyLit (ck c)) = false
theorem accOK_start {T : List Cell} {left : Lit → Bool} (h : ∀ c ∈ T, left (keyLit (ck c)) = true) : accOK T left [] :=
  ⟨List.Pairwise.nil, fun c => ⟨(fun h' => by cases h'), (fun h' => by have := h c h'.1; rw [this] at h'; cases h'.2)⟩⟩
theorem accOK_step {T acc : List Cell} {left : Lit → Bool} (ho : Once T) (hs : ∀ c ∈ T, smallC c) (h : accOK T left acc) {c : Cell} (hc : c ∈ T) (hl : left (keyLit (ck c)) = true) : accOK T (strike left c) (acc ++ [c]) := by
  have hne : ∀ d ∈ acc, ck d ≠ ck c := fun d hd e => by
    have := (h.2 d).1 hd
    rw [once_eq ho this.1 hc e, hl] at this
    cases this.2
  refine ⟨?_, fun d => ?_⟩
  · refine List.pairwise_append.2 ⟨h.1, by simp, fun a ha b hb => ?_⟩
    rw [List.mem_singleton] at hb
    subst hb
    exact hne a ha
  · rw [List.mem_append, List.mem_singleton, h.2 d]
    constructor
    · rintro (⟨h1, h2⟩ | rfl)
      · by_cases e : ck d = ck c
        · rw [e, hl] at h2; cases h2
        · exact ⟨h1, by rw [strike_other left (hs c hc) (hs d h1) e]; exact h2⟩
      · exact ⟨hc, strike_same left d⟩
    · rintro ⟨h1, h2⟩
      by_cases e : ck d = ck c
      · exact .inr (once_eq ho h1 hc e)
      · rw [strike_other left (hs c hc) (hs d h1) e] at h2
        exact .inl ⟨h1, h2⟩
theorem accOK_end {T acc : List Cell} {left : Lit → Bool} (ho : Once T) (h : accOK T left acc) (hl : ∀ kl, left kl = false) : acc.Perm T :=
  (List.perm_ext_iff_of_nodup h.1.nodup ho.nodup).2 fun c => (h.2 c).trans ⟨fun h' => h'.1, fun h' => ⟨h', hl _⟩⟩
section
variable {ops : Array Oper} {rest : List Oper} {o : Oper} {a : Act} {w : World} {Q : Exit → Act → World → Prop}
theorem wpList_range_rowsN (hg : o.guard = none) (m : Operand) (hop : o.op = Op.range 68 m) (b n : Nat) (T : List Cell) (hm : a.eval m = .map (some b)) (h : mapAt w b n T)
    (hK : ∀ w' left, rangeAt w' b w.heap.size n T left T.length → (∀ c ∈ T, left (keyLit (ck c)) = true) → w.grownBy w' none → w'.heap.size = w.heap.size + 1 → wpList Tryz.prog ops Q rest (a.put o.dst (.pointer (some ⟨w.heap.size, 0, none⟩))) w') :
    wpList Tryz.prog ops Q (o :: rest) a w := by
  refine wpList_plain hg fun K' hK' => ?_
  obtain ⟨es, hown, hp⟩ := h.own
  obtain ⟨w', hrun, hr, hg, hs⟩ := hown.range (t := 68) (e := 152) lawA Tryz.underlying68
  unfold Oper.wp
  simp [execOp, hop, hm, hrun, Result.andThen]
  refine hK' _ _ (hK w' (Maps.has (DataW.map es)) ⟨⟨es, ?_, hp⟩, h.once, h.small⟩ ?_ hg hs)
  · have e : Maps.size (DataW.map es) = T.length := by rw [Maps.size_eq, hp.length_eq, List.length_map]
    rw [← e]; exact hr
  · intro c hc
    exact List.any_eq_true.2 ⟨ent c, hp.mem_iff.2 (List.mem_map_of_mem hc), (sameKey_lit _ _).2 rfl⟩
end
/-- What Cells hands back. -/
def CellsPost (w : World) (T : List Cell) (x : Ending) (w' : World) : Prop :=
  ∃ v l, x = .returned v ∧ l.Perm T ∧ Asc l ∧ ownsCl w' w.heap.size v l ∧ (v = .slice none 0 0 ↔ l = []) ∧ Below w.heap.size w w'
set_option maxRecDepth 100000 in
set_option maxHeartbeats 4000000 in
theorem cells_nil (w : World) (tb o : Nat) (H : Hole) (ho : o = H.L.length) (n : Nat) (h : tabAt w tb H none n []) :
    Calls Tryz.prog 89 #[.pointer (some ⟨tb, o, none⟩)] w (CellsPost w []) := by
  have ct := Hole.cell h.blk ho
  clear ho
  have hrg := run_range_nilMap (P := Tryz.prog) w 68 197 152 Tryz.underlying68
  have hnx : ∀ ty, (Instr.next (.pointer (some ⟨w.heap.size, 0, none⟩)) false ty).run Tryz.prog (w.alloc (.mapIter none 0 #[] 0)) = _ := fun ty => run_next_nilMap w ty 0 0 #[]
  have B1 := Lib.hid ((Below.refl w.heap.size w).alloc (Nat.le_refl _) (.mapIter none 0 #[] 0))
  clear h
  go_enter Tryz.func89, Tryz.ntmps89
  go_wp2
  refine wp_loop_rounds 1 ?_
  rw [rounds_succ]
  go_wp2_with fail
  refine (sort_none none 0 _ _).mono ?_
  rintro _ w3 ⟨rfl, rfl⟩
  go_wp2_with fail
  go_ret
  exact ⟨_, [], rfl, .refl _, List.Pairwise.nil, ownsCl_nil _ _, by simp, B1.out⟩
set_option maxRecDepth 100000 in
set_option maxHeartbeats 4000000 in
theorem cells_some (w : World) (tb o : Nat) (H : Hole) (ho : o = H.L.length) (b n : Nat) (T : List Cell) (h : tabAt w tb H (some b) n T) (hn : n ≤ 1048576) :
    Calls Tryz.prog 89 #[.pointer (some ⟨tb, o, none⟩)] w (CellsPost w T) := by
  have ct := Hole.cell h.blk ho
  clear ho
  have M := Lib.hid (h.map b rfl)
  have hbl := M.out.lt
  clear h
  go_enter Tryz.func89, Tryz.ntmps89
  go_wp2_with (first | (at_range; refine wpList_range_rowsN rfl _ rfl b n T rfl M.out ?_; intro w1 left RG HL g1 hs1) | go_in)
  go_frame
  have OS := Lib.hid M.out.once
  have SM := Lib.hid M.out.small
  have LN := Lib.hid (Nat.le_trans M.out.len_le hn)
  have B1 := Lib.hid ((Below.refl w.heap.size w).grown g1 (Nat.le_refl _) (fun _ e => by cases e))
  clear ct M g1
  generalize hrb : w.heap.size = rb at *
  go_loopw [3] (fun lv wr => ∃ left cnt acc, Hid (rangeAt wr b rb n T left cnt) ∧ Hid (ownsCl wr (rb + 1) lv acc) ∧ Hid (accOK T left acc) ∧ Hid (acc.length + cnt ≤ T.length) ∧ Hid (lv = .slice none 0 0 ↔ acc = []) ∧ Hid (Below rb w wr)) (fun _ wr => wr.rangeLeft b rb)
  case atStart => exact ⟨left, T.length, [], Lib.hid RG, Lib.hid (ownsCl_nil _ _), Lib.hid (accOK_start HL), Lib.hid (by simp), Lib.hid (by simp), B1⟩
  case round =>
    clear RG HL left B1 w1 hs1
    obtain ⟨left, cnt, acc, RG, OW, AO, LE, NI, BB⟩ := hrel
    go_wp2_with (first | (at_next; refine wpList_next_rows rfl _ rfl b rb n T left cnt rfl RG.out ?_ ?_) | go_in)
    · intro _ hl0
      have PM := Lib.hid (accOK_end OS.out AO.out hl0)
      have AC := Lib.hid AO.out.1
      have LA := Lib.hid (Nat.le_trans (Nat.le_trans (Nat.le_add_right _ _) LE.out) LN.out)
      clear hl0 RG AO LE OS SM LN
      by_cases e : acc = []
      · subst e
        obtain rfl := NI.out.2 rfl
        go_wp2_with fail
        refine (sort_none none 0 _ _).mono ?_
        rintro _ w3 ⟨rfl, rfl⟩
        go_wp2_with fail
        go_ret
        exact ⟨_, [], rfl, PM.out, List.Pairwise.nil, ownsCl_nil _ _, by simp, by rw [hrb]; exact BB.out⟩
      · obtain ⟨g, cap, cur, rfl, hg, hh, h1, h2, h3, h4⟩ := ownsCl_form OW.out e
        have SC := sort_cells g 0 cap acc.toArray wr (holdsC hh h4) (lt_of_heap hh) (by have := LA.out; simp; omega)
        rw [List.size_toArray] at SC
        have HH := Lib.hid hh
        clear hh h4 OW NI
        go_wp2_with fail
        refine SC.mono ?_
        rintro _ w3 ⟨rfl, d', nd, os, hp, hs, rfl⟩
        have PS := Lib.hid (sorted_asc (d := acc.toArray) (by simpa using AC.out) (by simpa using hp) (by simpa using hs))
        have PL := Lib.hid (show d'.toList.length = acc.length from by have := PS.out.1.length_eq; simpa using this)
        have OW3 := Lib.hid (ownsCl_sorted (n := nd) (os := os) (m := d'.toList) PL.out hg HH.out h1 h2 h3)
        have B3 := Lib.hid (BB.out.grown (grownBy_sortedC (g := g) (n := nd) (os := os) d') (by rw [← hrb]; exact BB.out.size) (by rintro _ ⟨⟩; omega))
        rw [Array.toArray_toList] at OW3
        clear SC hp hs HH BB
        generalize sortWorldK cellVs 4 wr g 0 nd d' os = w3 at OW3 B3 ⊢
        go_wp2_with fail
        go_ret
        refine ⟨_, d'.toList, rfl, ?_, PS.out.2, by rw [hrb]; exact OW3.out.low (Nat.le_succ _), ?_, by rw [hrb]; exact B3.out⟩
        · exact (by simpa using PS.out.1 : d'.toList.Perm acc).trans PM.out
        · constructor
          · intro h; cases h
          · intro h
            have := PL.out
            rw [h] at this
            exact absurd (List.length_eq_zero_iff.1 this.symm) e
    · intro c w8 cnt8 hc hlx RG8 hlt g8 hs8 hen
      have AO8 := Lib.hid (accOK_step OS.out SM.out AO.out hc hlx)
      have OW8 := Lib.hid (OW.out.kept g8 (fun g hg e => by injection e with e; have := (OW.out.base hg).1; omega))
      have B8 := Lib.hid (BB.out.grown g8 (by rw [← hrb]; exact BB.out.size) (by rintro _ ⟨⟩; exact Nat.le_refl _))
      have CNT := Lib.hid (show wr.rangeLeft b rb = cnt from RG.out.left_eq)
      have NB := Lib.hid (fun g (hg : u3.ownBlock = some g) => (OW.out.base hg).1)
      have RG8 := Lib.hid RG8
      have hrl := RG8.out.lt
      have hal : acc.length ≤ 1099511627776 := by have := LE.out; have := LN.out; omega
      clear RG OW AO BB hlx hc g8 hs8 NI
      obtain ⟨c1, c2, c3, c4⟩ := c
      dsimp only at hen
      have s9 : (w8.alloc (.cells #[.string c1, .string c2, .string c3, .string c4] 152)).heap.size = w8.heap.size + 1 := by simp
      have G9 := World.grownBy_alloc w8 (.cells #[.string c1, .string c2, .string c3, .string c4] 152) none
      have OW9 := Lib.hid (OW8.out.kept G9 (by simp))
      have RG9 := Lib.hid (RG8.out.kept G9 (by simp) (by simp))
      have B9 := Lib.hid (B8.out.alloc (by rw [← hrb]; exact B8.out.size) (.cells #[.string c1, .string c2, .string c3, .string c4] 152))
      have hb9 : rb + 1 ≤ (w8.alloc (.cells #[.string c1, .string c2, .string c3, .string c4] 152)).heap.size := by rw [s9]; omega
      clear OW8 RG8 B8 G9
      go_wp2_with (at_builtin; go_must (refine append_cell (rb + 1) u3 acc ⟨c1, c2, c3, c4⟩ (.tmp 15) (.tmp 17) _ rfl rfl rfl (by rw [s9]; rfl) OW9.out hal hb9 ?_); intro v' w' OWn g' hnn)
      have RGn := RG9.out.kept g' (fun e => by have := NB.out b e.symm; omega) (fun e => by have := NB.out rb e.symm; omega)
      exact ⟨⟨strike left ⟨c1, c2, c3, c4⟩, cnt8, acc ++ [⟨c1, c2, c3, c4⟩], Lib.hid RGn, Lib.hid OWn, AO8, Lib.hid (by have := LE.out; simp; omega), Lib.hid ⟨fun e => absurd e hnn, fun e => by simp at e⟩,
        Lib.hid (B9.out.grown g' (by omega) (fun j hj => by have := NB.out j hj; omega))⟩, by rw [RGn.left_eq, CNT.out]; exact hlt⟩
/-- Rows in order. -/
def sortC (T : List Cell) : List Cell := T.mergeSort fun a b => !kless (ck b) (ck a)
theorem sortC_perm (T : List Cell) : (sortC T).Perm T := List.mergeSort_perm _ _
theorem sortC_asc {T : List Cell} (h : Once T) : Asc (sortC T) := by
  have hs := List.pairwise_mergeSort (le := fun a b : Cell => !kless (ck b) (ck a)) (fun a b c h1 h2 => by
    simp only [Bool.not_eq_true'] at *
    cases h3 : kless (ck c) (ck a) with
    | false => rfl
    | true =>
      cases h4 : kless (ck c) (ck b) with
      | true => rw [h4] at h2; cases h2
      | false =>
        cases h5 : kless (ck b) (ck c) with
        | true => have := kless_trans h5 h3; rw [this] at h1; cases h1
        | false => have := kless_total h4 h5; rw [this] at h3; rw [h3] at h1; cases h1)
    (fun a b => by
      cases h1 : kless (ck b) (ck a) with
      | false => simp
      | true =>
        cases h2 : kless (ck a) (ck b) with
        | false => simp
        | true => have := kless_trans h1 h2; rw [kless_irrefl] at this; cases this) T
  have ho := h.perm (sortC_perm T)
  refine (hs.and ho).imp fun {c d} hk => ?_
  obtain ⟨h1, h2⟩ := hk
  simp only [Bool.not_eq_true'] at h1
  cases h3 : kless (ck c) (ck d) with
  | true => rfl
  | false => exact absurd (kless_total h3 h1) h2
theorem sortC_eq {T l : List Cell} (h : Once T) (hp : l.Perm T) (ha : Asc l) : l = sortC T :=
  asc_eq ha (sortC_asc h) (hp.trans (sortC_perm T).symm)
theorem sortC_nil {T : List Cell} : sortC T = [] ↔ T = [] := by
  constructor
  · intro h; have := sortC_perm T; rw [h] at this; exact this.symm.eq_nil
  · rintro rfl; exact (sortC_perm []).eq_nil
/-- What Cells hands back, in order. -/
def RowsPost (w : World) (T : List Cell) (x : Ending) (w' : World) : Prop :=
  ∃ v, x = .returned v ∧ ownsCl w' w.heap.size v (sortC T) ∧ (v = .slice none 0 0 ↔ T = []) ∧ Below w.heap.size w w'
theorem cells_any (w : World) (tb o : Nat) (H : Hole) (ho : o = H.L.length) (mb : Option Nat) (n : Nat) (T : List Cell) (h : tabAt w tb H mb n T) (hn : n ≤ 1048576) :
    Calls Tryz.prog 89 #[.pointer (some ⟨tb, o, none⟩)] w (RowsPost w T) := by
  have hO := h.once
  have fin : ∀ x w', CellsPost w T x w' → RowsPost w T x w' := by
    rintro x w' ⟨v, l, hx, hp, ha, ho, hv, hb⟩
    obtain rfl := sortC_eq hO hp ha
    exact ⟨v, hx, ho, hv.trans sortC_nil, hb⟩
  cases mb with
  | none =>
    obtain rfl := h.nil rfl
    exact (cells_nil w tb o H ho n h).mono fin
  | some b => exact (cells_some w tb o H ho b n T h hn).mono fin
end Go.Proofs.YtnkmckdefiblhaaGreatDoor
namespace Go.Proofs.YtnkmckdefiblhaaGreatDoor

/-- A source, the events that were done, and its rows behind each. -/
structure RunM where
  S : SrcM
  ok : List Ev
  rows : List (List Cell)
def run1 (sec : ByteArray) (R : RunM) (e : Ev) : RunM := if doX R.S e = 0 then ⟨doS sec R.S e, R.ok ++ [e], R.rows ++ [sortC (doS sec R.S e).T]⟩ else R
def R0 : RunM := ⟨S0, [], [[]]⟩
def runM (sec : ByteArray) (l : List Ev) : RunM := l.foldl (run1 sec) R0
/-- Whether a subject is forgotten in there. -/
def goneIn (l : List Ev) (s : ByteArray) : Bool := l.any fun e => decide (e.kind = 3) && decide (txt e.subject = txt s)
theorem goneIn_append (l m : List Ev) (s : ByteArray) : goneIn (l ++ m) s = (goneIn l s || goneIn m s) := List.any_append
theorem goneIn_one (e : Ev) (s : ByteArray) : goneIn [e] s = (decide (e.kind = 3) && decide (txt e.subject = txt s)) := by simp [goneIn]
theorem goneIn_nil (s : ByteArray) : goneIn [] s = false := rfl
/-- What holds of a source. -/
structure Inv (sec : ByteArray) (S : SrcM) (ok : List Ev) : Prop where
  len : S.L.length = ok.length
  told : ∀ (i : Nat) (r : Rec) (e : Ev), S.L[i]? = some r → ok[i]? = some e → isTold sec r e ∧ r.seq = (i : Int) + 1 ∧ r.prev = headR (S.L.take i) ∧ r.gen ≤ (S.many r.subject : Nat) ∧ lostR S.many S.has r = (decide (e.kind ≠ 3) && goneIn (ok.drop (i + 1)) e.subject)
  key : ∀ s, S.has s = true → 1 ≤ S.many s
  cnt : ∀ s, S.many s ≤ S.L.length
  once : Once S.T
  own : ∀ c ∈ S.T, S.has c.subject = true ∧ rightE okV ⟨1, c.subject, c.table, c.row, c.value⟩ = true
theorem Inv.start (sec : ByteArray) : Inv sec S0 [] :=
  ⟨rfl, (fun _ _ _ h => by cases h), (fun _ h => by cases h), (fun _ => Nat.le_refl 0), List.Pairwise.nil, (fun _ h => by cases h)⟩
theorem tellX_right {has : ByteArray → Bool} {e : Ev} (h : tellX has e = 0) : rightE okV e = true ∧ (e.kind = 3 → has e.subject = true) := by
  unfold tellX at h
  cases hr : rightE okV e with
  | false => rw [hr, if_pos rfl] at h; cases h
  | true =>
    rw [hr, if_neg (by simp)] at h
    refine ⟨rfl, fun hk => ?_⟩
    cases hh : has e.subject with
    | true => rfl
    | false => rw [if_pos ⟨hk, hh⟩] at h; cases h
theorem doX_tell {S : SrcM} {e : Ev} (h : doX S e = 0) : tellX S.has e = 0 ∧ (e.kind = 1 → ∀ c, findT (ek e) S.T = some c → txt c.subject = txt e.subject) ∧ (e.kind = 2 → ∃ c, findT (ek e) S.T = some c ∧ txt c.subject = txt e.subject) := by
  unfold doX at h
  split at h
  · cases h
  · rename_i h1
    split at h
    · cases h
    · rename_i h2
      refine ⟨h, fun hk c hc => ?_, fun hk => ?_⟩
      · rw [hc] at h1
        simp only [Option.isSome_some, Option.getD_some, true_and] at h1
        exact Classical.byContradiction fun hn => h1 ⟨hk, hn⟩
      · have h3 := Classical.byContradiction fun hn => h2 ⟨hk, hn⟩
        obtain ⟨c, hc⟩ := Option.isSome_iff_exists.1 h3.1
        rw [hc] at h3
        exact ⟨c, hc, h3.2⟩
theorem toldR_fields (sec : ByteArray) (many : ByteArray → Nat) (has : ByteArray → Bool) (L : List Rec) (e : Ev) :
    (toldR sec many has L e).seq = (L.length : Int) + 1 ∧ (toldR sec many has L e).subject = e.subject ∧ (toldR sec many has L e).prev = headR L ∧ (toldR sec many has L e).gen = (if e.kind = 3 then 0 else (makeN many has e.subject : Int)) := by
  unfold toldR
  by_cases hk : e.kind = 3
  · rw [if_pos hk, if_pos hk]; exact ⟨rfl, rfl, rfl, rfl⟩
  · rw [if_neg hk, if_neg hk]; exact ⟨rfl, rfl, rfl, rfl⟩
theorem stepT_mem {e : Ev} {T : List Cell} {c : Cell} (hc : c ∈ stepT e T) : c ∈ T ∨ (e.kind = 1 ∧ c = cellE e) := by
  unfold stepT at hc
  split at hc
  · rename_i hk
    rcases List.mem_cons.1 hc with h | h
    · exact .inr ⟨hk, h⟩
    · exact .inl (List.mem_filter.1 h).1
  · split at hc
    · split at hc
      · exact .inl (List.mem_filter.1 hc).1
      · exact .inl hc
    · exact .inl (List.mem_filter.1 hc).1
theorem doS_yes {sec : ByteArray} {S : SrcM} {e : Ev} (h : doX S e = 0) : doS sec S e = ⟨toldMany S.many S.has e, toldHas S.has e, S.L ++ [toldR sec S.many S.has S.L e], stepT e S.T⟩ := if_pos h
theorem toldHas_eq (has : ByteArray → Bool) (e : Ev) : toldHas has e e.subject = decide (e.kind ≠ 3) := updS_same ..
theorem Inv.step {sec : ByteArray} {S : SrcM} {ok : List Ev} (h : Inv sec S ok) {e : Ev} (hx : doX S e = 0) : Inv sec (doS sec S e) (ok ++ [e]) := by
  obtain ⟨hT, hput, hdel⟩ := doX_tell hx
  obtain ⟨hR, hG⟩ := tellX_right hT
  have hkind := kind_cases hR
  rw [doS_yes hx]
  have hmono : ∀ s, S.many s ≤ toldMany S.many S.has e s := fun s => by
    unfold toldMany
    split
    · exact Nat.le_refl _
    · by_cases hs : s = e.subject
      · rw [hs, updS_same]; unfold makeN; split <;> omega
      · rw [updS_other _ _ hs]; exact Nat.le_refl _
  refine ⟨?_, ?_, ?_, ?_, ?_, ?_⟩
  · show (S.L ++ [_]).length = (ok ++ [e]).length
    simp [h.len]
  · intro i r x hr hxi
    dsimp only at hr ⊢
    by_cases hi : i < S.L.length
    · rw [List.getElem?_append_left hi] at hr
      rw [List.getElem?_append_left (by rw [← h.len]; exact hi)] at hxi
      obtain ⟨t1, t2, t3, t4, t5⟩ := h.told i r x hr hxi
      refine ⟨t1, t2, ?_, ?_, ?_⟩
      · rw [List.take_append_of_le_length (Nat.le_of_lt hi)]; exact t3
      · have := hmono r.subject; omega
      · rw [List.drop_append_of_le_length (by rw [← h.len]; omega), goneIn_append, goneIn_one]
        unfold lostR at t5 ⊢
        have hs := t1.subj
        have hg := t1.gen_iff
        by_cases hk3 : x.kind = 3
        · have hg0 := hg.2 hk3
          simp [hg0, hk3]
        · have hg0 : r.gen ≠ 0 := fun e0 => hk3 (hg.1 e0)
          simp only [hg0, hk3, ne_eq, not_false_eq_true, decide_true, Bool.true_and] at t5 ⊢
          unfold toldMany toldHas
          by_cases hsub : r.subject = e.subject
          · have hxs : x.subject = e.subject := hs.symm.trans hsub
            rw [hsub] at t4 t5
            rw [hxs] at t5
            rw [hsub, hxs, updS_same, ← t5]
            by_cases he3 : e.kind = 3
            · rw [if_pos he3]; simp [he3]
            · rw [if_neg he3, updS_same]
              unfold makeN
              cases hh : S.has e.subject with
              | true => simp [he3]
              | false => simp [he3]; omega
          · have hm : (if e.kind = 3 then S.many else updS S.many e.subject (makeN S.many S.has e.subject)) r.subject = S.many r.subject := by
              split
              · rfl
              · exact updS_other _ _ hsub
            rw [hm, updS_other _ _ hsub, t5]
            have : decide (txt e.subject = txt x.subject) = false := decide_eq_false (fun e1 => hsub (by rw [hs]; exact (txt_inj e1).symm))
            rw [this]; simp
    · have hil : i = S.L.length := by
        have := (List.getElem?_eq_some_iff.1 hr).1
        simp at this; omega
      subst hil
      rw [List.getElem?_append_right (Nat.le_refl _)] at hr
      rw [h.len, List.getElem?_append_right (Nat.le_refl _)] at hxi
      simp only [Nat.sub_self, List.getElem?_cons_zero, Option.some.injEq] at hr hxi
      subst hr hxi
      obtain ⟨f1, f2, f3, f4⟩ := toldR_fields sec S.many S.has S.L e
      refine ⟨toldR_is sec S.many S.has S.L hR (h.key e.subject), f1, ?_, ?_, ?_⟩
      · rw [f3, List.take_left]
      · rw [f2, f4]
        unfold toldMany
        split
        · omega
        · rw [updS_same]; omega
      · unfold lostR
        rw [f2, f4, List.drop_eq_nil_of_le (by simp [h.len]), goneIn_nil, Bool.and_false]
        unfold toldMany toldHas
        by_cases he3 : e.kind = 3
        · simp [he3]
        · rw [if_neg he3, if_neg he3, updS_same, updS_same]; simp [he3]
  · intro s hs
    dsimp only at hs ⊢
    by_cases hse : s = e.subject
    · subst hse
      unfold toldHas at hs
      rw [updS_same] at hs
      have he3 : e.kind ≠ 3 := of_decide_eq_true hs
      unfold toldMany
      rw [if_neg he3, updS_same]
      unfold makeN
      cases hh : S.has e.subject with
      | true => have := h.key _ hh; simp; omega
      | false => simp
    · unfold toldHas at hs
      rw [updS_other _ _ hse] at hs
      have := h.key s hs
      have := hmono s; omega
  · intro s
    show toldMany S.many S.has e s ≤ (S.L ++ [_]).length
    have := h.cnt s
    rw [List.length_append, List.length_singleton]
    unfold toldMany
    split
    · omega
    · by_cases hse : s = e.subject
      · subst hse
        rw [updS_same]; unfold makeN; split <;> omega
      · rw [updS_other _ _ hse]; omega
  · exact h.once.step e
  · intro c hc
    dsimp only at hc ⊢
    rcases stepT_mem hc with h1 | ⟨h1, rfl⟩
    · obtain ⟨o1, o2⟩ := h.own c h1
      refine ⟨?_, o2⟩
      by_cases hse : c.subject = e.subject
      · unfold toldHas
        rw [hse, updS_same]
        by_cases he3 : e.kind = 3
        · exfalso
          unfold stepT at hc
          rw [if_neg (by omega), if_neg (by omega)] at hc
          have := (List.mem_filter.1 hc).2
          rw [hse] at this
          simp at this
        · simp [he3]
      · unfold toldHas; rw [updS_other _ _ hse]; exact o1
    · refine ⟨?_, ?_⟩
      · show toldHas S.has e e.subject = true
        rw [toldHas_eq, h1]; rfl
      · show rightE okV ⟨1, e.subject, e.table, e.row, e.value⟩ = true
        rw [← h1]; exact hR
theorem Inv.run {sec : ByteArray} : ∀ (l : List Ev) (R : RunM), Inv sec R.S R.ok → Inv sec (l.foldl (run1 sec) R).S (l.foldl (run1 sec) R).ok
  | [], _, h => h
  | e :: l, R, h => by
    refine Inv.run l (run1 sec R e) ?_
    unfold run1
    split
    · rename_i hx; exact h.step hx
    · exact h
end Go.Proofs.YtnkmckdefiblhaaGreatDoor
namespace Go.Proofs.YtnkmckdefiblhaaGreatDoor

/-! ### Tables behind events that were done -/
def tabN (ok : List Ev) (k : Nat) : List Cell := (ok.take k).foldl (fun T e => stepT e T) []
theorem tabN_succ {ok : List Ev} {k : Nat} {e : Ev} (h : ok[k]? = some e) : tabN ok (k + 1) = stepT e (tabN ok k) := by
  unfold tabN; rw [List.take_add_one, h, Option.toList_some, List.foldl_append]; rfl
theorem tabN_append {ok m : List Ev} {k : Nat} (h : k ≤ ok.length) : tabN (ok ++ m) k = tabN ok k := by
  unfold tabN; rw [List.take_append_of_le_length h]
theorem stepT_put {e : Ev} (h : e.kind = 1) (T : List Cell) : stepT e T = putT (cellE e) T := by unfold stepT; rw [if_pos h]
/-- An event that may be done where those rows are. -/
structure accT (T : List Cell) (e : Ev) : Prop where
  right : rightE okV e = true
  put : e.kind = 1 → ∀ c, findT (ek e) T = some c → txt c.subject = txt e.subject
  del : e.kind = 2 → ∃ c, findT (ek e) T = some c ∧ txt c.subject = txt e.subject
def Acc (ok : List Ev) : Prop := ∀ k e, ok[k]? = some e → accT (tabN ok k) e
/-- How a run's rows come. -/
structure Runs (sec : ByteArray) (R : RunM) : Prop where
  inv : Inv sec R.S R.ok
  tab : R.S.T = tabN R.ok R.ok.length
  acc : Acc R.ok
  rows : R.rows = (List.range (R.ok.length + 1)).map fun k => sortC (tabN R.ok k)
theorem Runs.start (sec : ByteArray) : Runs sec R0 := ⟨Inv.start sec, rfl, (fun _ _ h => by cases h), (by show [[]] = [sortC (tabN [] 0)]; rw [show sortC (tabN [] 0) = [] from sortC_nil.2 rfl])⟩
theorem Runs.step {sec : ByteArray} {R : RunM} (h : Runs sec R) (e : Ev) : Runs sec (run1 sec R e) := by
  unfold run1
  by_cases hx : doX R.S e = 0
  · rw [if_pos hx]
    obtain ⟨hT, hput, hdel⟩ := doX_tell hx
    have hS : (doS sec R.S e).T = tabN (R.ok ++ [e]) (R.ok.length + 1) := by
      rw [doS_yes hx, tabN_succ (by simp : (R.ok ++ [e])[R.ok.length]? = some e), tabN_append (Nat.le_refl _), ← h.tab]
    refine ⟨h.inv.step hx, ?_, ?_, ?_⟩
    · dsimp only
      rw [hS, List.length_append, List.length_singleton]
    · intro k x hk
      dsimp only at hk ⊢
      by_cases hlt : k < R.ok.length
      · rw [List.getElem?_append_left hlt] at hk
        rw [tabN_append (Nat.le_of_lt hlt)]
        exact h.acc k x hk
      · have hl := (List.getElem?_eq_some_iff.1 hk).1
        simp at hl
        obtain rfl : k = R.ok.length := by omega
        rw [List.getElem?_append_right (Nat.le_refl _)] at hk
        simp only [Nat.sub_self, List.getElem?_cons_zero, Option.some.injEq] at hk
        subst hk
        rw [tabN_append (Nat.le_refl _), ← h.tab]
        exact ⟨(tellX_right hT).1, hput, hdel⟩
    · dsimp only
      rw [List.length_append, List.length_singleton, List.range_succ, List.map_append, List.map_cons, List.map_nil, ← hS]
      congr 1
      rw [h.rows]
      apply List.map_congr_left
      intro k hk
      rw [tabN_append (by have := List.mem_range.1 hk; omega)]
  · rw [if_neg hx]; exact h
theorem Runs.run {sec : ByteArray} : ∀ (l : List Ev) (R : RunM), Runs sec R → Runs sec (l.foldl (run1 sec) R)
  | [], _, h => h
  | e :: l, _, h => Runs.run l _ (h.step e)
/-! ### A reader -/
structure RdM where
  seq : Nat
  mark : ByteArray
  T : List Cell
  lost : Nat
def RD0 : RdM := ⟨0, noneS, [], 0⟩
def readM (many : ByteArray → Nat) (has : ByteArray → Bool) (R : RdM) (r : Rec) (e : Ev) : RdM :=
  ⟨R.seq + 1, mkS (mkB r), if lostR many has r = true then R.T else stepT e R.T, if lostR many has r = true then R.lost + 1 else R.lost⟩
/-- A reader that has read k of them. -/
def follN (many : ByteArray → Nat) (has : ByteArray → Bool) (L : List Rec) (ok : List Ev) (R : RdM) (k : Nat) : RdM := ((L.zip ok).take k).foldl (fun R p => readM many has R p.1 p.2) R
/-- How many are lost of the first k. -/
def lostN (ok : List Ev) : Nat → Nat
  | 0 => 0
  | k + 1 => lostN ok k + (match ok[k]? with | some e => if (decide (e.kind ≠ 3) && goneIn (ok.drop (k + 1)) e.subject) = true then 1 else 0 | none => 0)
end Go.Proofs.YtnkmckdefiblhaaGreatDoor
namespace Go.Proofs.YtnkmckdefiblhaaGreatDoor

/-! ### Rows in another order -/
theorem Once.of_perm {T U : List Cell} (h : Once T) (hp : T.Perm U) : Once U := List.Pairwise.perm h hp (fun h => Ne.symm h)
theorem find_perm {T U : List Cell} (hT : Once T) (hp : U.Perm T) (k : List UInt8 × List UInt8) : findT k U = findT k T := by
  have hU : Once U := hT.of_perm hp.symm
  cases h : findT k T with
  | some c =>
    obtain ⟨hm, hk⟩ := find_mem h
    have := find_some hU (hp.mem_iff.2 hm)
    rw [hk] at this; exact this
  | none =>
    cases h2 : findT k U with
    | none => rfl
    | some c =>
      obtain ⟨hm, hk⟩ := find_mem h2
      have := find_some hT (hp.mem_iff.1 hm)
      rw [hk, h] at this; cases this
theorem stepT_perm {T U : List Cell} (hT : Once T) (hp : U.Perm T) (e : Ev) : (stepT e U).Perm (stepT e T) := by
  unfold stepT
  rw [find_perm hT hp]
  unfold putT delT goneT
  split
  · exact (hp.filter _).cons _
  · split
    · split
      · exact hp.filter _
      · exact hp
    · exact hp.filter _
/-- A reader that has the same, but for the order of its rows. -/
structure same (R U : RdM) : Prop where
  seq : U.seq = R.seq
  mark : U.mark = R.mark
  lost : U.lost = R.lost
  rows : U.T.Perm R.T
theorem same.read {R U : RdM} (h : same R U) (hT : Once R.T) (many : ByteArray → Nat) (has : ByteArray → Bool) (r : Rec) (e : Ev) : same (readM many has R r e) (readM many has U r e) := by
  unfold readM
  refine ⟨by dsimp only; rw [h.seq], rfl, by dsimp only; rw [h.lost], ?_⟩
  dsimp only
  split
  · exact h.rows
  · exact stepT_perm hT h.rows e
theorem readM_once {R : RdM} (h : Once R.T) (many : ByteArray → Nat) (has : ByteArray → Bool) (r : Rec) (e : Ev) : Once (readM many has R r e).T := by
  unfold readM
  dsimp only
  split
  · exact h
  · exact h.step e
/-! ### What is forgotten by then -/
/-! ### One that has read some, and goes on as more is told -/
def goOn (R : RunM) (k : Nat) (U : RdM) (i : Nat) : RdM := follN R.S.many R.S.has (R.S.L.drop k) (R.ok.drop k) U i
/-! ### Runs that go on -/
/-! ### Rows that are put, one behind the other -/
def putAll : List Cell → List Cell → List Cell
  | [], T => T
  | c :: r, T => putAll r (putT c T)
theorem putAll_snoc (l : List Cell) (c : Cell) (T : List Cell) : putAll (l ++ [c]) T = putT c (putAll l T) := by
  induction l generalizing T with
  | nil => rfl
  | cons x l ih => exact ih _
theorem put_new {T : List Cell} {c : Cell} (h : ∀ d ∈ T, ck d ≠ ck c) : putT c T = c :: T := by
  unfold putT delT
  rw [List.filter_eq_self.2 (fun d hd => by simpa using h d hd)]
theorem putAll_perm : ∀ l : List Cell, Once l → (putAll l []).Perm l := by
  intro l
  suffices h : ∀ (l T : List Cell), Once (T ++ l) → (putAll l T).Perm (T ++ l) by
    intro ho; simpa using h l [] (by simpa using ho)
  intro l
  induction l with
  | nil => intro T _; simp [putAll]
  | cons c l ih =>
    intro T ho
    have hn : ∀ d ∈ T, ck d ≠ ck c := fun d hd => by
      have := List.pairwise_append.1 ho
      exact this.2.2 d hd c (by simp)
    show (putAll l (putT c T)).Perm _
    rw [put_new hn]
    have hp : (T ++ c :: l).Perm (c :: T ++ l) := by simp
    exact (ih _ (ho.of_perm hp)).trans hp.symm
end Go.Proofs.YtnkmckdefiblhaaGreatDoor
