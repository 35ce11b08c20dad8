/- slices.DeleteFunc at rows, with SourceForgets's closure (the walks). -/
import Derived.Test.YtgckpfeeioljeaaGreatDoorProg
import Derived.Test.YtgckpfeeioljeaaGreatDoorG23
import Derived.Test.YtgckpfeeioljeaaGreatDoorG22
import Derived.Test.YtgckpfeeioljeaaGreatDoorH36
import Derived.Test.YtgckpfeeioljeaaGreatDoorShelfI
namespace Go.Proofs.YtgckpfeeioljeaaGreatDoor
open Go.RowKit Go.Shelf

/-- What is kept so far: of the first j rows i are kept, from j on all is as it was. -/
structure Kept (p : Cell → Bool) (l m : List Cell) (i j : Nat) : Prop where
  len : m.length = l.length
  lt : i < j
  le : j ≤ l.length
  head : m.take i = (l.take j).filter fun c => !p c
  rest : m.drop j = l.drop j
theorem Kept.start {p : Cell → Bool} {l : List Cell} {k : Nat} (hk : k < l.length) (h : (l.take k).filter (fun c => !p c) = l.take k) (hp : p l[k] = true) : Kept p l l k (k + 1) :=
  ⟨rfl, Nat.lt_succ_self k, hk, by rw [List.take_add_one, List.getElem?_eq_getElem hk, List.filter_append, h]; simp [hp], rfl⟩
theorem Kept.skip {p : Cell → Bool} {l m : List Cell} {i j : Nat} {c : Cell} (h : Kept p l m i j) (hc : l[j]? = some c) (hp : p c = true) : Kept p l m i (j + 1) := by
  have hj := (List.getElem?_eq_some_iff.1 hc).1
  refine ⟨h.len, by have := h.lt; omega, hj, ?_, ?_⟩
  · rw [h.head, List.take_add_one, hc, List.filter_append]; simp [hp]
  · rw [← List.drop_drop, ← List.drop_drop, h.rest]
theorem Kept.keep {p : Cell → Bool} {l m : List Cell} {i j : Nat} {c : Cell} (h : Kept p l m i j) (hc : l[j]? = some c) (hp : p c = false) : Kept p l (m.take i ++ [c] ++ m.drop (i + 1)) (i + 1) (j + 1) := by
  have hj := (List.getElem?_eq_some_iff.1 hc).1
  have hl := h.len
  have hij := h.lt
  have h1 : (m.take i ++ [c]).length = i + 1 := by simp; omega
  refine ⟨by simp; omega, by omega, hj, ?_, ?_⟩
  · rw [List.take_append, h1, Nat.sub_self, List.take_zero, List.append_nil, List.take_of_length_le (by omega), h.head, List.take_add_one, hc, List.filter_append]
    simp [hp]
  · rw [List.drop_append, h1, List.drop_eq_nil_of_le (by omega), List.nil_append, List.drop_drop, show i + 1 + (j + 1 - (i + 1)) = j + 1 by omega, ← List.drop_drop, ← List.drop_drop, h.rest]
theorem Kept.at {p : Cell → Bool} {l m : List Cell} {i j : Nat} {c : Cell} (h : Kept p l m i j) (hc : l[j]? = some c) : m[j]? = some c := by
  have h1 := congrArg (fun x : List Cell => x[0]?) h.rest
  simp only [List.getElem?_drop, Nat.add_zero] at h1
  rw [h1, hc]
theorem idx_spec (p : Cell → Bool) (x : Cell) : ∀ (l : List Cell) (i : Nat), (Lib.idxByFrom (fun _ y => p y) x l i = -1 ∧ l.filter (fun c => !p c) = l) ∨ ∃ k, ∃ h : k < l.length, Lib.idxByFrom (fun _ y => p y) x l i = ((i + k : Nat) : Int) ∧ p l[k] = true ∧ (l.take k).filter (fun c => !p c) = l.take k
  | [], i => .inl ⟨rfl, rfl⟩
  | y :: r, i => by
    cases h : p y with
    | true => exact .inr ⟨0, by simp, by simp [Lib.idxByFrom, h], by simpa using h, by simp⟩
    | false =>
      rcases idx_spec p x r (i + 1) with ⟨e, ha⟩ | ⟨k, hk, e, ht, ha⟩
      · exact .inl ⟨by simp [Lib.idxByFrom, h, e], by rw [List.filter_cons_of_pos (by simp [h]), ha]⟩
      · refine .inr ⟨k + 1, by simpa using hk, ?_, by simpa using ht, by rw [List.take_succ_cons, List.filter_cons_of_pos (by simp [h]), ha]⟩
        have e' : Lib.idxByFrom (fun _ y => p y) x (y :: r) i = Lib.idxByFrom (fun _ y => p y) x r (i + 1) := by simp [Lib.idxByFrom, h]
        rw [e', e]
        congr 1
        omega
theorem ownsCl_cells {w : World} {base g n cap : Nat} {l : List Cell} {j : Nat} {c : Cell} (h : ownsCl w base (.slice (some ⟨g, 0, none⟩) n cap) l) (hj : l[j]? = some c) :
    w.cell? ⟨g, j * 4, none⟩ = some (.string c.table) ∧ w.cell? ⟨g, j * 4 + 1, none⟩ = some (.string c.row) ∧ w.cell? ⟨g, j * 4 + 2, none⟩ = some (.string c.subject) ∧ w.cell? ⟨g, j * 4 + 3, none⟩ = some (.string c.value) := by
  rcases (cellsIn_of h).1 with h0 | ⟨g', hq, hg, hc⟩
  · subst h0; simp at hj
  · cases hq
    have hl := (List.getElem?_eq_some_iff.1 hj).1
    have he : l[j]! = c := by rw [getElem!_pos l j hl]; exact (List.getElem?_eq_some_iff.1 hj).2
    have h := hc j hl
    rw [he, Nat.zero_add] at h
    exact ⟨h 0 _ rfl, h 1 _ rfl, h 2 _ rfl, h 3 _ rfl⟩
theorem grown_cell {w w' : World} {g eb k : Nat} {v : Value} (h : w.grownBy w' (some g)) (hb : eb < w.heap.size) (hne : eb ≠ g) (hc : w.cell? ⟨eb, k, none⟩ = some v) : w'.cell? ⟨eb, k, none⟩ = some v := by
  rw [cell_in, h.block eb hb (by simp [hne]), ← cell_in]; exact hc
theorem grown_of {w w' : World} (h : ∃ x, w' = ext w x) (row : Option Nat) : w.grownBy w' row :=
  let b := ext_iff.1 h
  ⟨b.os, b.tape, b.output, b.size, fun k hk _ => b.block k hk⟩
set_option maxRecDepth 100000 in
theorem idxR_none (q : Option Addr) (c : Nat) (f : Value) (w : World) : Calls Tryz.prog 25 #[.slice q 0 c, f] w fun e w' => e = .returned (.int .i64 (-1)) ∧ w' = w := by
  go_enter Tryz.func25, Tryz.ntmps25
  go_wp2
  refine wp_loop_rounds 1 ?_
  rw [rounds_succ]
  go_wp2_with fail
  go_ret
  exact ⟨rfl, rfl⟩
theorem idxC_any (p : Cell → Bool) (g : Nat) (lb : Array Value) (eg : ∀ args w, (callFunc g args).run Tryz.prog w = .ok (.enter g args) w) (b cp : Nat) (l : List Cell) (w : World)
    (hp : PredBelow Tryz.prog g lb (fun x => .agg (cellVs x).toArray) p w) (hl : l.length ≤ 9223372036854775807) (hb : b < w.heap.size)
    (hc : ∀ j, j < l.length → ∀ i v, (cellVs l[j]!)[i]? = some v → w.cell? ⟨b, 0 + j * 4 + i, none⟩ = some v) :
    Calls Tryz.prog 25 #[.slice (some ⟨b, 0, none⟩) l.length cp, .func (.func g) #[] lb] w fun e w' => e = .returned (.int .i64 (Lib.idxBy (fun _ y => p y) l default)) ∧ ∃ x, w' = ext w x := by
  have h := AnyQ.slices_IndexFunc Tryz.idxCell 4 isAggC sizeOfC cellVs (fun _ => rfl) p g lb eg b 0 l.length cp l w hp (Nat.le_refl _) hl hb hc
  rw [List.take_length] at h
  exact h.mono fun e w' ⟨h1, h2⟩ => ⟨h1, ext_of h2⟩
set_option maxRecDepth 100000 in
set_option maxHeartbeats 4000000 in
theorem delS_some (p : Cell → Bool) (x1 : Value) (base g cap : Nat) (l : List Cell) (w : World) (h : ownsCl w base (.slice (some ⟨g, 0, none⟩) l.length cap) l) (h0 : 0 < l.length) (hl : l.length ≤ 1099511627776) (hcp : l.length ≤ cap) (hg : g < w.heap.size)
    (hf : ∀ c W, w.grownBy W (some g) → Calls Tryz.prog 32 #[.agg (cellVs c).toArray, x1] W (Res (p c) W)) :
    Calls Tryz.prog 33 #[.slice (some ⟨g, 0, none⟩) l.length cap, .func (.func 32) #[] #[x1]] w fun x w' =>
      ∃ v', x = .returned v' ∧ ownsCl w' base v' (l.filter fun c => !p c) ∧ w.grownBy w' (some g) := by
  have eg := enters_of Tryz.func32 (by kernel_rfl) rfl
  have IX := idxC_any p 32 #[x1] eg g cap l w
    (fun W c hB => (hf c W (grown_below hB (some g))).mono fun e w' ⟨h1, h2⟩ => ⟨h1, hB.trans ((ext_iff.1 h2).mono hB.size)⟩)
    (by omega) hg (by
      rcases (cellsIn_of h).1 with h' | ⟨g', hq, hg', hc⟩
      · rw [h'] at h0; cases h0
      · cases hq; exact hc)
  have SP := idx_spec p default l 0
  have OW := Lib.hid h
  have HF := Lib.hid hf
  unfold Lib.idxBy at IX
  generalize Lib.idxByFrom (fun _ y => p y) default l 0 = ix at IX SP
  clear h hf
  rcases SP with ⟨rfl, hall⟩ | ⟨k, hk, rfl, ht, hall⟩
  · go_enter Tryz.func33, Tryz.ntmps33
    go_wp2_with fail
    refine IX.mono ?_
    rintro _ w2 ⟨rfl, hx⟩
    have G2 := Lib.hid (grown_of hx (some g))
    have O2 := Lib.hid (OW.out.kept (grown_of hx none) (by simp))
    clear IX hx
    go_wp2_with fail
    go_ret
    exact ⟨_, rfl, by rw [hall]; exact O2.out, G2.out⟩
  · have K0 := Lib.hid (Kept.start hk hall ht)
    rw [Nat.zero_add] at IX
    have hne1 : ((k : Int) == -1) = false := beq_eq_false_iff_ne.2 (by omega)
    clear ht hall
    go_enter Tryz.func33, Tryz.ntmps33
    go_wp2_with fail
    refine IX.mono ?_
    rintro _ w2 ⟨rfl, hx⟩
    have G2 := Lib.hid (grown_of hx (some g))
    have O2 := Lib.hid (OW.out.kept (grown_of hx none) (by simp))
    clear IX hx OW
    go_wp2_with fail
    go_loopw [5, 6] (fun iv jv wr => ∃ (i j : Nat) (m : List Cell), iv = .int .i64 i ∧ jv = .int .i64 j ∧ Hid (Kept p l m i j) ∧ Hid (ownsCl wr base (.slice (some ⟨g, 0, none⟩) l.length cap) m) ∧ Hid (w.grownBy wr (some g))) (fun _ jv _ => l.length - (intOf jv).toNat)
    case atStart => exact ⟨k, k + 1, l, rfl, by go_num, K0, O2, G2⟩
    case round =>
      clear K0 O2 G2 hk hne1
      obtain ⟨i, j, m, rfl, rfl, KP, OW, GR⟩ := hrel
      have hij := KP.out.lt
      have hml := KP.out.len
      have hjl := KP.out.le
      by_cases hlt : j < l.length
      · have hc := List.getElem?_eq_getElem hlt
        generalize l[j] = c at hc
        have hm := KP.out.at hc
        obtain ⟨d0, d1, d2, d3⟩ := ownsCl_cells OW.out hm
        have hlt' : (j : Int) < l.length := by omega
        have hilt : (i : Int) < l.length := by omega
        have hgs : g < wr.heap.size := Nat.lt_of_lt_of_le hg GR.out.size
        obtain ⟨c1, c2, c3, c4⟩ := c
        dsimp only at d0 d1 d2 d3
        have GA := Lib.hid (GR.out.trans (World.grownBy_alloc wr (.cells #[.string c1, .string c2, .string c3, .string c4] 43) (some g)))
        have OA := Lib.hid (OW.out.kept (World.grownBy_alloc wr (.cells #[.string c1, .string c2, .string c3, .string c4] 43) none) (by simp))
        have HA := Lib.hid (heap_alloc_at wr (.cells #[.string c1, .string c2, .string c3, .string c4] 43))
        have IS := HF.out ⟨c1, c2, c3, c4⟩ _ GA.out
        unfold cellVs at IS
        dsimp only at IS
        cases hp : p ⟨c1, c2, c3, c4⟩ with
        | true =>
          rw [hp] at IS
          have KN := Lib.hid (KP.out.skip hc hp)
          clear hc hm KP OW
          go_wp2_with fail
          refine IS.mono ?_
          rintro _ w7 ⟨rfl, hx⟩
          have G7 := Lib.hid (GA.out.trans (grown_of hx (some g)))
          have O7 := Lib.hid (OA.out.kept (grown_of hx none) (by simp))
          clear IS hx GA OA HA
          go_wp2_with fail
          go_roundw
          case rel => exact ⟨i, j + 1, m, rfl, by go_num, KN, O7, G7⟩
          case measure => simp [intOf]; omega
        | false =>
          rw [hp] at IS
          have KN := Lib.hid (KP.out.keep hc hp)
          clear hc hm KP OW
          go_wp2_with fail
          refine IS.mono ?_
          rintro _ w7 ⟨rfl, hx⟩
          have G7 := Lib.hid (GA.out.trans (grown_of hx (some g)))
          have O7 := Lib.hid (OA.out.kept (grown_of hx none) (by simp))
          have H7 := ((ext_iff.1 hx).block _ (lt_of_heap HA.out)).trans HA.out
          obtain ⟨b0, b1, b2, b3⟩ := cell_cells (c := ⟨c1, c2, c3, c4⟩) H7
          dsimp only at b0 b1 b2 b3
          have hi7 : i < m.length := by omega
          clear IS hx GA OA HA
          go_wp2_with (refine store_row (i := i) (l := m) ⟨c1, c2, c3, c4⟩ (.tmp 33) (.tmp 32) rfl rfl rfl rfl O7.out hi7 ?_; intro w8 O8 g8)
          go_roundw
          case rel => exact ⟨i + 1, j + 1, _, by go_num, by go_num, KN, Lib.hid O8, Lib.hid (G7.out.trans g8)⟩
          case measure => simp [intOf]; omega
      · obtain rfl : j = l.length := by omega
        have hilt : (i : Int) < l.length := by omega
        have hil : i < m.length := by omega
        obtain ⟨w8, hcl, O8, g8⟩ := clear_rows (m := l.length - i) (c := cap - i) OW.out hil (by omega)
        have O8 := Lib.hid O8
        have g8 := Lib.hid (GR.out.trans g8)
        go_wp2_with fail
        go_ret
        refine ⟨_, rfl, ?_, g8.out⟩
        have hh := KP.out.head
        rw [List.take_length] at hh
        rw [← hh]
        have hll : (m.take i ++ List.replicate (l.length - i) zeroC).length = l.length := by simp; omega
        obtain ⟨g', cap', cur, hv, hbs, hhp, h1, h2, h3, h4⟩ := ownsCl_form O8.out (by intro e; rw [e] at hll; simp at hll; omega)
        rw [hll] at hv
        cases hv
        have hti : (m.take i).length = i := by simp; omega
        refine ⟨by rw [flatC_length], .inr ⟨g, cap, cur, by rw [hti]; rfl, hbs, hhp, by omega, h2, h3, ?_⟩⟩
        rw [hti]
        have h5 := congrArg (List.take (i * 4)) h4
        rw [List.take_take, hll, Nat.min_eq_left (by omega), flatC_take, List.take_append, hti, Nat.sub_self, List.take_zero, List.append_nil, List.take_take, Nat.min_self] at h5
        exact h5
theorem delS_any (p : Cell → Bool) (x1 : Value) (base : Nat) (v : Value) (l : List Cell) (w : World) (h : ownsCl w base v l) (hl : l.length ≤ 1099511627776)
    (hf : ∀ c W, w.grownBy W v.ownBlock → Calls Tryz.prog 32 #[.agg (cellVs c).toArray, x1] W (Res (p c) W)) :
    Calls Tryz.prog 33 #[v, .func (.func 32) #[] #[x1]] w fun x w' =>
      ∃ v', x = .returned v' ∧ ownsCl w' base v' (l.filter fun c => !p c) ∧ w.grownBy w' v.ownBlock := by
  by_cases h0 : l = []
  · subst h0
    obtain ⟨q, cap, rfl⟩ := rows_shape h
    have OW := Lib.hid h
    clear h
    go_enter Tryz.func33, Tryz.ntmps33
    go_wp2_with fail
    refine (idxR_none _ _ _ _).mono ?_
    rintro _ w2 ⟨rfl, rfl⟩
    go_wp2_with fail
    go_ret
    exact ⟨_, rfl, OW.out, grown_of (ext_refl _) _⟩
  · obtain ⟨g, cap, cur, rfl, hg, hh, h1, _⟩ := ownsCl_form h h0
    exact delS_some p x1 base g cap l w h (by cases l; exact absurd rfl h0; simp) hl h1 (lt_of_heap hh) hf
end Go.Proofs.YtgckpfeeioljeaaGreatDoor
