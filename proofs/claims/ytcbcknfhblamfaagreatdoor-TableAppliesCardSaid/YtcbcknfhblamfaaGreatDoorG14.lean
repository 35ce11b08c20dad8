/- (*table.Table).Cells (the walk). -/
import Derived.Test.YtcbcknfhblamfaaGreatDoorProg
import Derived.Test.YtcbcknfhblamfaaGreatDoorOwnC
import Derived.Test.YtcbcknfhblamfaaGreatDoorG13
namespace Go.Proofs.YtcbcknfhblamfaaGreatDoor
open Go.RowKit Go.Shelf

/-- Rows that stand in order, none twice. -/
def Asc (l : List Cell) : Prop := l.Pairwise fun c d => kless (ck c) (ck d) = true
theorem Asc.once {l : List Cell} (h : Asc l) : Once l := h.imp fun {c d} hk e => by rw [e, kless_irrefl] at hk; cases hk
theorem Once.nodup {l : List Cell} (h : Once l) : l.Nodup := h.imp fun {_ _} hk e => hk (by rw [e])
theorem Once.perm {l m : List Cell} (h : Once l) (hp : m.Perm l) : Once m := (hp.pairwise_iff (fun {_ _} hne => Ne.symm hne)).2 h
theorem asc_eq {l m : List Cell} (hl : Asc l) (hm : Asc m) (hp : l.Perm m) : l = m :=
  hp.eq_of_pairwise (fun a b _ _ h1 h2 => by have := kless_trans h1 h2; rw [kless_irrefl] at this; cases this) hl hm
theorem sorted_asc {d d' : Array Cell} (ho : Once d.toList) (hp : Go.Sort.PermIn 0 d.size d d') (hs : Go.Sort.SortedIn (ltOf ccmp) 0 d.size d') : d'.toList.Perm d.toList ∧ Asc d'.toList := by
  have hp' : d'.toList.Perm d.toList := by
    have h := hp.2.2
    rw [show d.extract 0 d.size = d by simp, show d'.extract 0 d.size = d' by rw [← hp.1]; simp] at h
    exact h
  refine ⟨hp', ?_⟩
  have ho' := ho.perm hp'
  refine List.pairwise_iff_getElem.2 fun i j hi hj hij => ?_
  have h1 := List.pairwise_iff_getElem.1 ho' i j hi hj hij
  have hj' : j < d.size := by rw [← hp.1]; simpa using hj
  have hi' : i < d.size := by omega
  have h2 := hs i j (Nat.zero_le _) hij hj'
  rw [ltOf_ccmp] at h2
  have gi : d'[i]! = d'.toList[i] := by rw [getElem!_pos d' i (by simpa using hi)]; simp
  have gj : d'[j]! = d'.toList[j] := by rw [getElem!_pos d' j (by simpa using hj)]; simp
  rw [gi, gj] at h2
  cases hk : kless (ck d'.toList[i]) (ck d'.toList[j]) with
  | true => rfl
  | false => exact absurd (kless_total hk h2) h1
/-- What has been met. -/
def accOK (T : List Cell) (left : Lit → Bool) (acc : List Cell) : Prop := Once acc ∧ ∀ c, c ∈ acc ↔ c ∈ T ∧ left (keyLit (ck c)) = false
theorem accOK_start {T : List Cell} {left : Lit → Bool} (h : ∀ c ∈ T, left (keyLit (ck c)) = true) : accOK T left [] :=
  ⟨List.Pairwise.nil, fun c => ⟨(fun h' => by cases h'), (fun h' => by have := h c h'.1; rw [this] at h'; cases h'.2)⟩⟩
theorem accOK_step {T acc : List Cell} {left : Lit → Bool} (ho : Once T) (hs : ∀ c ∈ T, smallC c) (h : accOK T left acc) {c : Cell} (hc : c ∈ T) (hl : left (keyLit (ck c)) = true) : accOK T (strike left c) (acc ++ [c]) := by
  have hne : ∀ d ∈ acc, ck d ≠ ck c := fun d hd e => by
    have := (h.2 d).1 hd
    rw [once_eq ho this.1 hc e, hl] at this
    cases this.2
  refine ⟨?_, fun d => ?_⟩
  · refine List.pairwise_append.2 ⟨h.1, by simp, fun a ha b hb => ?_⟩
    rw [List.mem_singleton] at hb
    subst hb
    exact hne a ha
  · rw [List.mem_append, List.mem_singleton, h.2 d]
    constructor
    · rintro (⟨h1, h2⟩ | rfl)
      · by_cases e : ck d = ck c
        · rw [e, hl] at h2; cases h2
        · exact ⟨h1, by rw [strike_other left (hs c hc) (hs d h1) e]; exact h2⟩
      · exact ⟨hc, strike_same left d⟩
    · rintro ⟨h1, h2⟩
      by_cases e : ck d = ck c
      · exact .inr (once_eq ho h1 hc e)
      · rw [strike_other left (hs c hc) (hs d h1) e] at h2
        exact .inl ⟨h1, h2⟩
theorem accOK_end {T acc : List Cell} {left : Lit → Bool} (ho : Once T) (h : accOK T left acc) (hl : ∀ kl, left kl = false) : acc.Perm T :=
  (List.perm_ext_iff_of_nodup h.1.nodup ho.nodup).2 fun c => (h.2 c).trans ⟨fun h' => h'.1, fun h' => ⟨h', hl _⟩⟩
section
variable {ops : Array Oper} {rest : List Oper} {o : Oper} {a : Act} {w : World} {Q : Exit → Act → World → Prop}
theorem wpList_range_rowsN (hg : o.guard = none) (m : Operand) (hop : o.op = Op.range 28 m) (b n : Nat) (T : List Cell) (hm : a.eval m = .map (some b)) (h : mapAt w b n T)
    (hK : ∀ w' left, rangeAt w' b w.heap.size n T left T.length → (∀ c ∈ T, left (keyLit (ck c)) = true) → w.grownBy w' none → w'.heap.size = w.heap.size + 1 → wpList Tryz.prog ops Q rest (a.put o.dst (.pointer (some ⟨w.heap.size, 0, none⟩))) w') :
    wpList Tryz.prog ops Q (o :: rest) a w := by
  refine wpList_plain hg fun K' hK' => ?_
  obtain ⟨es, hown, hp⟩ := h.own
  obtain ⟨w', hrun, hr, hg, hs⟩ := hown.range (t := 28) (e := 44) lawA Tryz.underlying28
  unfold Oper.wp
  simp [execOp, hop, hm, hrun, Result.andThen]
  refine hK' _ _ (hK w' (Maps.has (DataW.map es)) ⟨⟨es, ?_, hp⟩, h.once, h.small⟩ ?_ hg hs)
  · have e : Maps.size (DataW.map es) = T.length := by rw [Maps.size_eq, hp.length_eq, List.length_map]
    rw [← e]; exact hr
  · intro c hc
    exact List.any_eq_true.2 ⟨ent c, hp.mem_iff.2 (List.mem_map_of_mem hc), (sameKey_lit _ _).2 rfl⟩
end
/-- What Cells hands back. -/
def CellsPost (w : World) (T : List Cell) (x : Ending) (w' : World) : Prop :=
  ∃ v l, x = .returned v ∧ l.Perm T ∧ Asc l ∧ ownsCl w' w.heap.size v l ∧ (v = .slice none 0 0 ↔ l = []) ∧ Below w.heap.size w w'
set_option maxRecDepth 100000 in
set_option maxHeartbeats 4000000 in
theorem cells_nil (w : World) (tb n : Nat) (h : tabAt w tb none n []) :
    Calls Tryz.prog 10 #[.pointer (some ⟨tb, 0, none⟩)] w (CellsPost w []) := by
  have ct := cell1 h.blk
  have hrg := run_range_nilMap (P := Tryz.prog) w 28 54 44 Tryz.underlying28
  have hnx : ∀ ty, (Instr.next (.pointer (some ⟨w.heap.size, 0, none⟩)) false ty).run Tryz.prog (w.alloc (.mapIter none 0 #[] 0)) = _ := fun ty => run_next_nilMap w ty 0 0 #[]
  have B1 := Lib.hid ((Below.refl w.heap.size w).alloc (Nat.le_refl _) (.mapIter none 0 #[] 0))
  clear h
  go_enter Tryz.func10, Tryz.ntmps10
  go_wp2
  refine wp_loop_rounds 1 ?_
  rw [rounds_succ]
  go_wp2_with fail
  refine (sort_none none 0 _ _).mono ?_
  rintro _ w3 ⟨rfl, rfl⟩
  go_wp2_with fail
  go_ret
  exact ⟨_, [], rfl, .refl _, List.Pairwise.nil, ownsCl_nil _ _, by simp, B1.out⟩
set_option maxRecDepth 100000 in
set_option maxHeartbeats 4000000 in
theorem cells_some (w : World) (tb b n : Nat) (T : List Cell) (h : tabAt w tb (some b) n T) (hn : n ≤ 1048576) :
    Calls Tryz.prog 10 #[.pointer (some ⟨tb, 0, none⟩)] w (CellsPost w T) := by
  have ct := cell1 h.blk
  have M := Lib.hid (h.map b rfl)
  have hbl := M.out.lt
  clear h
  go_enter Tryz.func10, Tryz.ntmps10
  go_wp2_with (first | (at_range; refine wpList_range_rowsN rfl _ rfl b n T rfl M.out ?_; intro w1 left RG HL g1 hs1) | go_in)
  go_frame
  have OS := Lib.hid M.out.once
  have SM := Lib.hid M.out.small
  have LN := Lib.hid (Nat.le_trans M.out.len_le hn)
  have B1 := Lib.hid ((Below.refl w.heap.size w).grown g1 (Nat.le_refl _) (fun _ e => by cases e))
  clear ct M g1
  generalize hrb : w.heap.size = rb at *
  go_loopw [3] (fun lv wr => ∃ left cnt acc, Hid (rangeAt wr b rb n T left cnt) ∧ Hid (ownsCl wr (rb + 1) lv acc) ∧ Hid (accOK T left acc) ∧ Hid (acc.length + cnt ≤ T.length) ∧ Hid (lv = .slice none 0 0 ↔ acc = []) ∧ Hid (Below rb w wr)) (fun _ wr => wr.rangeLeft b rb)
  case atStart => exact ⟨left, T.length, [], Lib.hid RG, Lib.hid (ownsCl_nil _ _), Lib.hid (accOK_start HL), Lib.hid (by simp), Lib.hid (by simp), B1⟩
  case round =>
    clear RG HL left B1 w1 hs1
    obtain ⟨left, cnt, acc, RG, OW, AO, LE, NI, BB⟩ := hrel
    go_wp2_with (first | (at_next; refine wpList_next_rows rfl _ rfl b rb n T left cnt rfl RG.out ?_ ?_) | go_in)
    · intro _ hl0
      have PM := Lib.hid (accOK_end OS.out AO.out hl0)
      have AC := Lib.hid AO.out.1
      have LA := Lib.hid (Nat.le_trans (Nat.le_trans (Nat.le_add_right _ _) LE.out) LN.out)
      clear hl0 RG AO LE OS SM LN
      by_cases e : acc = []
      · subst e
        obtain rfl := NI.out.2 rfl
        go_wp2_with fail
        refine (sort_none none 0 _ _).mono ?_
        rintro _ w3 ⟨rfl, rfl⟩
        go_wp2_with fail
        go_ret
        exact ⟨_, [], rfl, PM.out, List.Pairwise.nil, ownsCl_nil _ _, by simp, by rw [hrb]; exact BB.out⟩
      · obtain ⟨g, cap, cur, rfl, hg, hh, h1, h2, h3, h4⟩ := ownsCl_form OW.out e
        have SC := sort_cells g 0 cap acc.toArray wr (holdsC hh h4) (lt_of_heap hh) (by have := LA.out; simp; omega)
        rw [List.size_toArray] at SC
        have HH := Lib.hid hh
        clear hh h4 OW NI
        go_wp2_with fail
        refine SC.mono ?_
        rintro _ w3 ⟨rfl, d', nd, os, hp, hs, rfl⟩
        have PS := Lib.hid (sorted_asc (d := acc.toArray) (by simpa using AC.out) (by simpa using hp) (by simpa using hs))
        have PL := Lib.hid (show d'.toList.length = acc.length from by have := PS.out.1.length_eq; simpa using this)
        have OW3 := Lib.hid (ownsCl_sorted (n := nd) (os := os) (m := d'.toList) PL.out hg HH.out h1 h2 h3)
        have B3 := Lib.hid (BB.out.grown (grownBy_sortedC (g := g) (n := nd) (os := os) d') (by rw [← hrb]; exact BB.out.size) (by rintro _ ⟨⟩; omega))
        rw [Array.toArray_toList] at OW3
        clear SC hp hs HH BB
        generalize sortWorldK cellVs 4 wr g 0 nd d' os = w3 at OW3 B3 ⊢
        go_wp2_with fail
        go_ret
        refine ⟨_, d'.toList, rfl, ?_, PS.out.2, by rw [hrb]; exact OW3.out.low (Nat.le_succ _), ?_, by rw [hrb]; exact B3.out⟩
        · exact (by simpa using PS.out.1 : d'.toList.Perm acc).trans PM.out
        · constructor
          · intro h; cases h
          · intro h
            have := PL.out
            rw [h] at this
            exact absurd (List.length_eq_zero_iff.1 this.symm) e
    · intro c w8 cnt8 hc hlx RG8 hlt g8 hs8 hen
      have AO8 := Lib.hid (accOK_step OS.out SM.out AO.out hc hlx)
      have OW8 := Lib.hid (OW.out.kept g8 (fun g hg e => by injection e with e; have := (OW.out.base hg).1; omega))
      have B8 := Lib.hid (BB.out.grown g8 (by rw [← hrb]; exact BB.out.size) (by rintro _ ⟨⟩; exact Nat.le_refl _))
      have CNT := Lib.hid (show wr.rangeLeft b rb = cnt from RG.out.left_eq)
      have NB := Lib.hid (fun g (hg : u3.ownBlock = some g) => (OW.out.base hg).1)
      have RG8 := Lib.hid RG8
      have hrl := RG8.out.lt
      have hal : acc.length ≤ 1099511627776 := by have := LE.out; have := LN.out; omega
      clear RG OW AO BB hlx hc g8 hs8 NI
      obtain ⟨c1, c2, c3, c4⟩ := c
      dsimp only at hen
      have s9 : (w8.alloc (.cells #[.string c1, .string c2, .string c3, .string c4] 44)).heap.size = w8.heap.size + 1 := by simp
      have G9 := World.grownBy_alloc w8 (.cells #[.string c1, .string c2, .string c3, .string c4] 44) none
      have OW9 := Lib.hid (OW8.out.kept G9 (by simp))
      have RG9 := Lib.hid (RG8.out.kept G9 (by simp) (by simp))
      have B9 := Lib.hid (B8.out.alloc (by rw [← hrb]; exact B8.out.size) (.cells #[.string c1, .string c2, .string c3, .string c4] 44))
      have hb9 : rb + 1 ≤ (w8.alloc (.cells #[.string c1, .string c2, .string c3, .string c4] 44)).heap.size := by rw [s9]; omega
      clear OW8 RG8 B8 G9
      go_wp2_with (at_builtin; go_must (refine append_cell (rb + 1) u3 acc ⟨c1, c2, c3, c4⟩ (.tmp 15) (.tmp 17) _ rfl rfl rfl (by rw [s9]; rfl) OW9.out hal hb9 ?_); intro v' w' OWn g' hnn)
      have RGn := RG9.out.kept g' (fun e => by have := NB.out b e.symm; omega) (fun e => by have := NB.out rb e.symm; omega)
      exact ⟨⟨strike left ⟨c1, c2, c3, c4⟩, cnt8, acc ++ [⟨c1, c2, c3, c4⟩], Lib.hid RGn, Lib.hid OWn, AO8, Lib.hid (by have := LE.out; simp; omega), Lib.hid ⟨fun e => absurd e hnn, fun e => by simp at e⟩,
        Lib.hid (B9.out.grown g' (by omega) (fun j hj => by have := NB.out j hj; omega))⟩, by rw [RGn.left_eq, CNT.out]; exact hlt⟩
end Go.Proofs.YtcbcknfhblamfaaGreatDoor
