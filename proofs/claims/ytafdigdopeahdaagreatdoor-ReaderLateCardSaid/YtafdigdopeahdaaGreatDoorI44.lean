/- oubliettekeep.follow: a reader that reads the first records of a feed (the walk). · slices.DeleteFunc at rows, with ReaderLate's closure (the walks). · ReaderLate's closures (the walks). · oubliettekeep.fed: a fact (the walk). · What is told more does not change what was told: plain. Events that are few. · oubliettekeep.ReaderLate (the walk). · What the rows' condition says of the package-level variables, in the walks' words. · Arguments as data: slices of texts, bytes, in the walks' words. -/
import Derived.Test.YtafdigdopeahdaaGreatDoorProg
import Derived.Test.YtafdigdopeahdaaGreatDoorG43
import Derived.Test.YtafdigdopeahdaaGreatDoorG30
import Derived.Test.YtafdigdopeahdaaGreatDoorG29
import Derived.Test.YtafdigdopeahdaaGreatDoorShelfI
import Derived.Test.YtafdigdopeahdaaGreatDoorG35
import Derived.Test.YtafdigdopeahdaaGreatDoorG39
import Derived.Test.YtafdigdopeahdaaGreatDoorG42
import Derived.Laws.EntriesVeiled
import Derived.Test.YtafdigdopeahdaaGreatDoorRows
import Derived.Test.YtafdigdopeahdaaGreatDoorG11
import Derived.Lib.LaidTab
import Derived.Stop.LaidErr
import Derived.LaidMore
import Derived.MakeChecks
import Derived.Test.YtafdigdopeahdaaGreatDoorG23
import Derived.LaidHandle
import Derived.Test.YtafdigdopeahdaaGreatDoorG13
import Derived.SliceStrings
import Derived.Carry
import Derived.ProofKit
namespace Go.Proofs.YtafdigdopeahdaaGreatDoor
open Go.RowKit Go.Shelf

/-- A reader that has read k of a run's records. -/
abbrev follR (R : RunM) (k : Nat) : RdM := follN R.S.many R.S.has R.S.L R.ok RD0 k
theorem glob_in {w w' : World} {V D : Blk} (hG : Glob w V) (h : step w w' none0 D) : Glob w' (fun i => V i ∨ D i) := hG.step (h.lift (A := V) (fun _ h => h.elim))
theorem new_apart {w w' : World} {V D : Blk} (h : step w w' none0 D) (hV : ∀ i, V i → i < w.heap.size) : apart V D := fun i h1 h2 => by have := (h.new h2).1; have := hV i h1; omega
/-- The next record of a run. -/
theorem foll_next {R : RunM} (HR : Runs secS R) {k : Nat} {x : Rec} {e : Ev} (h1 : R.S.L[k]? = some x) (h2 : R.ok[k]? = some e) :
    isTold secS x e ∧ x.gen ≤ (R.S.many x.subject : Nat) ∧ x.seq = (follR R k).seq + 1 ∧ x.prev = (follR R k).mark ∧ (follR R k).seq = k ∧ readM R.S.many R.S.has (follR R k) x e = follR R (k + 1) := by
  obtain ⟨t1, t2, t3, t4, _⟩ := HR.inv.told k x e h1 h2
  have hk := (List.getElem?_eq_some_iff.1 h2).1
  obtain ⟨l1, l2, _⟩ := late HR k (by omega)
  refine ⟨t1, t4, ?_, ?_, l1, (follN_succ h1 h2).symm⟩
  · rw [l1]; exact t2
  · rw [l2]; exact t3
/-- Read, at the record of a run that comes next. -/
theorem read_foll (R : RunM) (HR : Runs secS R) (hz : R.ok.length ≤ 1000) (k : Nat) (x : Rec) (h1 : R.S.L[k]? = some x) (w0 w : World) (V D : Blk) (rb vb nv : Nat) (hv : vaultIn w0 V vb nv secS R.S.many R.S.has) (hG : Glob w0 V) (hst : step w0 w none0 D) (h : rdIn w D rb vb k (follR R k)) :
    Calls Tryz.prog 14 #[.pointer (some ⟨rb, 0, none⟩), .agg (recV x)] w fun r w' => r = .returned .nilIface ∧ ∃ D', rdIn w' D' rb vb (k + 1) (follR R (k + 1)) ∧ step w w' D D' := by
  have hk : k < R.ok.length := by rw [← HR.inv.len]; exact (List.getElem?_eq_some_iff.1 h1).1
  obtain ⟨t1, t2, t3, t4, t5, t6⟩ := foll_next HR h1 (List.getElem?_eq_getElem hk)
  have := read_next x R.ok[k] w V D rb vb k nv secS R.S.many R.S.has (follR R k) h (hv.ext hst.ext) (glob_in hG hst) (new_apart hst hv.lt) t1 t2 t3 t4 (by omega) (by rw [t5]; omega)
  rw [t6] at this
  exact this
set_option maxRecDepth 100000 in
set_option maxHeartbeats 4000000 in
theorem follow_any (R : RunM) (HR : Runs secS R) (hz : R.ok.length ≤ 1000) (k : Nat) (hk : k ≤ R.ok.length) (q : Option Addr) (cp : Nat) (w : World) (V : Blk) (vb n : Nat) (hv : vaultIn w V vb n secS R.S.many R.S.has) (hG : Glob w V) (hr : recsAt w q (R.S.L.take k)) :
    Calls Tryz.prog 25 #[.pointer (some ⟨vb, 0, none⟩), .slice q k cp] w fun r w' => ∃ rb D, r = .returned (.tuple #[.pointer (some ⟨rb, 0, none⟩), .bool true]) ∧ rdIn w' D rb vb k (follR R k) ∧ step w w' none0 D := by
  have HV := Lib.hid hv
  have GG := Lib.hid hG
  have RR := Lib.hid hr
  have HRU := Lib.hid HR
  have hk1 : k ≤ 1000 := by omega
  have HK := Lib.hid hk
  clear hv hG hr HR hk
  go_enter Tryz.func25, Tryz.ntmps25
  go_wp2_with fail
  refine (rnew_any vb w).mono ?_
  rintro _ w1 ⟨rb, D, rfl, hr1, hst1, _⟩
  have ST := Lib.hid hst1
  have RI := Lib.hid hr1
  clear hr1 hst1
  go_wp2_with fail
  go_loopw [8] (fun iv wr => ∃ (j : Nat) (D : Blk), j ≤ k ∧ iv = .int .i64 j ∧ Hid (rdIn wr D rb vb j (follR R j)) ∧ Hid (step w wr none0 D)) (fun iv _ => k - (intOf iv).toNat)
  case atStart => exact ⟨0, D, Nat.zero_le _, rfl, RI, ST⟩
  case round =>
    clear RI ST
    obtain ⟨j, D, hj, rfl, RI, ST⟩ := hrel
    by_cases hlt : j < k
    · have hL : j < R.S.L.length := by rw [HRU.out.inv.len]; have := HK.out; omega
      have hx := List.getElem?_eq_getElem hL
      have hx' : (R.S.L.take k)[j]? = some R.S.L[j] := by rw [List.getElem?_take_of_lt hlt]; exact hx
      have RD := read_foll R HRU.out hz j _ hx w wr V D rb vb n HV.out GG.out ST.out RI.out
      have hb := ext_iff.1 ST.out.ext
      obtain ⟨g, o, rfl, e0, e1, e2, e3, e4, hg⟩ := recsAt_row (recsAt_of RR.out (fun k hk => hb.block k hk) hb.size) hx'
      generalize R.S.L[j] = x at RD hx hx' e0 e1 e2 e3 e4
      clear hx hx' hb
      have hlt' : (j : Int) < k := by omega
      obtain ⟨q0, u0, g0, p0, b0⟩ := x
      unfold recV at RD
      dsimp only at RD e0 e1 e2 e3 e4
      go_wp2_with fail
      refine RD.mono ?_
      rintro _ w7 ⟨rfl, D', hr7, hst7⟩
      have R7 := Lib.hid hr7
      have S7 := Lib.hid (ST.out.trans hst7)
      clear hr7 hst7 RD RI ST e0 e1 e2 e3 e4
      go_wp2_with fail
      go_roundw
      case rel => exact ⟨j + 1, D', hlt, by go_num, R7, S7⟩
      case measure => simp [intOf]; omega
    · obtain rfl : j = k := by omega
      go_wp2_with fail
      go_ret2
      exact ⟨rb, D, rfl, RI.out, ST.out⟩
end Go.Proofs.YtafdigdopeahdaaGreatDoor
namespace Go.Proofs.YtafdigdopeahdaaGreatDoor
open Go.RowKit Go.Shelf

/-- What is kept so far: of the first j rows i are kept, from j on all is as it was. -/
structure Kept (p : Cell → Bool) (l m : List Cell) (i j : Nat) : Prop where
  len : m.length = l.length
  lt : i < j
  le : j ≤ l.length
  head : m.take i = (l.take j).filter fun c => !p c
  rest : m.drop j = l.drop j
theorem Kept.start {p : Cell → Bool} {l : List Cell} {k : Nat} (hk : k < l.length) (h : (l.take k).filter (fun c => !p c) = l.take k) (hp : p l[k] = true) : Kept p l l k (k + 1) :=
  ⟨rfl, Nat.lt_succ_self k, hk, by rw [List.take_add_one, List.getElem?_eq_getElem hk, List.filter_append, h]; simp [hp], rfl⟩
theorem Kept.skip {p : Cell → Bool} {l m : List Cell} {i j : Nat} {c : Cell} (h : Kept p l m i j) (hc : l[j]? = some c) (hp : p c = true) : Kept p l m i (j + 1) := by
  have hj := (List.getElem?_eq_some_iff.1 hc).1
  refine ⟨h.len, by have := h.lt; omega, hj, ?_, ?_⟩
  · rw [h.head, List.take_add_one, hc, List.filter_append]; simp [hp]
  · rw [← List.drop_drop, ← List.drop_drop, h.rest]
theorem Kept.keep {p : Cell → Bool} {l m : List Cell} {i j : Nat} {c : Cell} (h : Kept p l m i j) (hc : l[j]? = some c) (hp : p c = false) : Kept p l (m.take i ++ [c] ++ m.drop (i + 1)) (i + 1) (j + 1) := by
  have hj := (List.getElem?_eq_some_iff.1 hc).1
  have hl := h.len
  have hij := h.lt
  have h1 : (m.take i ++ [c]).length = i + 1 := by simp; omega
  refine ⟨by simp; omega, by omega, hj, ?_, ?_⟩
  · rw [List.take_append, h1, Nat.sub_self, List.take_zero, List.append_nil, List.take_of_length_le (by omega), h.head, List.take_add_one, hc, List.filter_append]
    simp [hp]
  · rw [List.drop_append, h1, List.drop_eq_nil_of_le (by omega), List.nil_append, List.drop_drop, show i + 1 + (j + 1 - (i + 1)) = j + 1 by omega, ← List.drop_drop, ← List.drop_drop, h.rest]
theorem Kept.at {p : Cell → Bool} {l m : List Cell} {i j : Nat} {c : Cell} (h : Kept p l m i j) (hc : l[j]? = some c) : m[j]? = some c := by
  have h1 := congrArg (fun x : List Cell => x[0]?) h.rest
  simp only [List.getElem?_drop, Nat.add_zero] at h1
  rw [h1, hc]
theorem idx_spec (p : Cell → Bool) (x : Cell) : ∀ (l : List Cell) (i : Nat), (Lib.idxByFrom (fun _ y => p y) x l i = -1 ∧ l.filter (fun c => !p c) = l) ∨ ∃ k, ∃ h : k < l.length, Lib.idxByFrom (fun _ y => p y) x l i = ((i + k : Nat) : Int) ∧ p l[k] = true ∧ (l.take k).filter (fun c => !p c) = l.take k
  | [], i => .inl ⟨rfl, rfl⟩
  | y :: r, i => by
    cases h : p y with
    | true => exact .inr ⟨0, by simp, by simp [Lib.idxByFrom, h], by simpa using h, by simp⟩
    | false =>
      rcases idx_spec p x r (i + 1) with ⟨e, ha⟩ | ⟨k, hk, e, ht, ha⟩
      · exact .inl ⟨by simp [Lib.idxByFrom, h, e], by rw [List.filter_cons_of_pos (by simp [h]), ha]⟩
      · refine .inr ⟨k + 1, by simpa using hk, ?_, by simpa using ht, by rw [List.take_succ_cons, List.filter_cons_of_pos (by simp [h]), ha]⟩
        have e' : Lib.idxByFrom (fun _ y => p y) x (y :: r) i = Lib.idxByFrom (fun _ y => p y) x r (i + 1) := by simp [Lib.idxByFrom, h]
        rw [e', e]
        congr 1
        omega
theorem ownsCl_cells {w : World} {base g n cap : Nat} {l : List Cell} {j : Nat} {c : Cell} (h : ownsCl w base (.slice (some ⟨g, 0, none⟩) n cap) l) (hj : l[j]? = some c) :
    w.cell? ⟨g, j * 4, none⟩ = some (.string c.table) ∧ w.cell? ⟨g, j * 4 + 1, none⟩ = some (.string c.row) ∧ w.cell? ⟨g, j * 4 + 2, none⟩ = some (.string c.subject) ∧ w.cell? ⟨g, j * 4 + 3, none⟩ = some (.string c.value) := by
  rcases (cellsIn_of h).1 with h0 | ⟨g', hq, hg, hc⟩
  · subst h0; simp at hj
  · cases hq
    have hl := (List.getElem?_eq_some_iff.1 hj).1
    have he : l[j]! = c := by rw [getElem!_pos l j hl]; exact (List.getElem?_eq_some_iff.1 hj).2
    have h := hc j hl
    rw [he, Nat.zero_add] at h
    exact ⟨h 0 _ rfl, h 1 _ rfl, h 2 _ rfl, h 3 _ rfl⟩
theorem grown_cell {w w' : World} {g eb k : Nat} {v : Value} (h : w.grownBy w' (some g)) (hb : eb < w.heap.size) (hne : eb ≠ g) (hc : w.cell? ⟨eb, k, none⟩ = some v) : w'.cell? ⟨eb, k, none⟩ = some v := by
  rw [cell_in, h.block eb hb (by simp [hne]), ← cell_in]; exact hc
theorem grown_of {w w' : World} (h : ∃ x, w' = ext w x) (row : Option Nat) : w.grownBy w' row :=
  let b := ext_iff.1 h
  ⟨b.os, b.tape, b.output, b.size, fun k hk _ => b.block k hk⟩
set_option maxRecDepth 100000 in
theorem idxR_none (q : Option Addr) (c : Nat) (f : Value) (w : World) : Calls Tryz.prog 48 #[.slice q 0 c, f] w fun e w' => e = .returned (.int .i64 (-1)) ∧ w' = w := by
  go_enter Tryz.func48, Tryz.ntmps48
  go_wp2
  refine wp_loop_rounds 1 ?_
  rw [rounds_succ]
  go_wp2_with fail
  go_ret
  exact ⟨rfl, rfl⟩
theorem idxC_any (p : Cell → Bool) (g : Nat) (lb : Array Value) (eg : ∀ args w, (callFunc g args).run Tryz.prog w = .ok (.enter g args) w) (b cp : Nat) (l : List Cell) (w : World)
    (hp : PredBelow Tryz.prog g lb (fun x => .agg (cellVs x).toArray) p w) (hl : l.length ≤ 9223372036854775807) (hb : b < w.heap.size)
    (hc : ∀ j, j < l.length → ∀ i v, (cellVs l[j]!)[i]? = some v → w.cell? ⟨b, 0 + j * 4 + i, none⟩ = some v) :
    Calls Tryz.prog 48 #[.slice (some ⟨b, 0, none⟩) l.length cp, .func (.func g) #[] lb] w fun e w' => e = .returned (.int .i64 (Lib.idxBy (fun _ y => p y) l default)) ∧ ∃ x, w' = ext w x := by
  have h := AnyQ.slices_IndexFunc Tryz.idxCell 4 isAggC sizeOfC cellVs (fun _ => rfl) p g lb eg b 0 l.length cp l w hp (Nat.le_refl _) hl hb hc
  rw [List.take_length] at h
  exact h.mono fun e w' ⟨h1, h2⟩ => ⟨h1, ext_of h2⟩
set_option maxRecDepth 100000 in
set_option maxHeartbeats 4000000 in
theorem delG_some (p : Cell → Bool) (x1 x2 : Value) (base g cap : Nat) (l : List Cell) (w : World) (h : ownsCl w base (.slice (some ⟨g, 0, none⟩) l.length cap) l) (h0 : 0 < l.length) (hl : l.length ≤ 1099511627776) (hcp : l.length ≤ cap) (hg : g < w.heap.size)
    (hf : ∀ c W, w.grownBy W (some g) → Calls Tryz.prog 31 #[.agg (cellVs c).toArray, x1, x2] W (Res (p c) W)) :
    Calls Tryz.prog 29 #[.slice (some ⟨g, 0, none⟩) l.length cap, .func (.func 31) #[] #[x1, x2]] w fun x w' =>
      ∃ v', x = .returned v' ∧ ownsCl w' base v' (l.filter fun c => !p c) ∧ w.grownBy w' (some g) := by
  have eg := enters_of Tryz.func31 (by kernel_rfl) rfl
  have IX := idxC_any p 31 #[x1, x2] eg g cap l w
    (fun W c hB => (hf c W (grown_below hB (some g))).mono fun e w' ⟨h1, h2⟩ => ⟨h1, hB.trans ((ext_iff.1 h2).mono hB.size)⟩)
    (by omega) hg (by
      rcases (cellsIn_of h).1 with h' | ⟨g', hq, hg', hc⟩
      · rw [h'] at h0; cases h0
      · cases hq; exact hc)
  have SP := idx_spec p default l 0
  have OW := Lib.hid h
  have HF := Lib.hid hf
  unfold Lib.idxBy at IX
  generalize Lib.idxByFrom (fun _ y => p y) default l 0 = ix at IX SP
  clear h hf
  rcases SP with ⟨rfl, hall⟩ | ⟨k, hk, rfl, ht, hall⟩
  · go_enter Tryz.func29, Tryz.ntmps29
    go_wp2_with fail
    refine IX.mono ?_
    rintro _ w2 ⟨rfl, hx⟩
    have G2 := Lib.hid (grown_of hx (some g))
    have O2 := Lib.hid (OW.out.kept (grown_of hx none) (by simp))
    clear IX hx
    go_wp2_with fail
    go_ret
    exact ⟨_, rfl, by rw [hall]; exact O2.out, G2.out⟩
  · have K0 := Lib.hid (Kept.start hk hall ht)
    rw [Nat.zero_add] at IX
    have hne1 : ((k : Int) == -1) = false := beq_eq_false_iff_ne.2 (by omega)
    clear ht hall
    go_enter Tryz.func29, Tryz.ntmps29
    go_wp2_with fail
    refine IX.mono ?_
    rintro _ w2 ⟨rfl, hx⟩
    have G2 := Lib.hid (grown_of hx (some g))
    have O2 := Lib.hid (OW.out.kept (grown_of hx none) (by simp))
    clear IX hx OW
    go_wp2_with fail
    go_loopw [5, 6] (fun iv jv wr => ∃ (i j : Nat) (m : List Cell), iv = .int .i64 i ∧ jv = .int .i64 j ∧ Hid (Kept p l m i j) ∧ Hid (ownsCl wr base (.slice (some ⟨g, 0, none⟩) l.length cap) m) ∧ Hid (w.grownBy wr (some g))) (fun _ jv _ => l.length - (intOf jv).toNat)
    case atStart => exact ⟨k, k + 1, l, rfl, by go_num, K0, O2, G2⟩
    case round =>
      clear K0 O2 G2 hk hne1
      obtain ⟨i, j, m, rfl, rfl, KP, OW, GR⟩ := hrel
      have hij := KP.out.lt
      have hml := KP.out.len
      have hjl := KP.out.le
      by_cases hlt : j < l.length
      · have hc := List.getElem?_eq_getElem hlt
        generalize l[j] = c at hc
        have hm := KP.out.at hc
        obtain ⟨d0, d1, d2, d3⟩ := ownsCl_cells OW.out hm
        have hlt' : (j : Int) < l.length := by omega
        have hilt : (i : Int) < l.length := by omega
        have hgs : g < wr.heap.size := Nat.lt_of_lt_of_le hg GR.out.size
        obtain ⟨c1, c2, c3, c4⟩ := c
        dsimp only at d0 d1 d2 d3
        have GA := Lib.hid (GR.out.trans (World.grownBy_alloc wr (.cells #[.string c1, .string c2, .string c3, .string c4] 45) (some g)))
        have OA := Lib.hid (OW.out.kept (World.grownBy_alloc wr (.cells #[.string c1, .string c2, .string c3, .string c4] 45) none) (by simp))
        have HA := Lib.hid (heap_alloc_at wr (.cells #[.string c1, .string c2, .string c3, .string c4] 45))
        have IS := HF.out ⟨c1, c2, c3, c4⟩ _ GA.out
        unfold cellVs at IS
        dsimp only at IS
        cases hp : p ⟨c1, c2, c3, c4⟩ with
        | true =>
          rw [hp] at IS
          have KN := Lib.hid (KP.out.skip hc hp)
          clear hc hm KP OW
          go_wp2_with fail
          refine IS.mono ?_
          rintro _ w7 ⟨rfl, hx⟩
          have G7 := Lib.hid (GA.out.trans (grown_of hx (some g)))
          have O7 := Lib.hid (OA.out.kept (grown_of hx none) (by simp))
          clear IS hx GA OA HA
          go_wp2_with fail
          go_roundw
          case rel => exact ⟨i, j + 1, m, rfl, by go_num, KN, O7, G7⟩
          case measure => simp [intOf]; omega
        | false =>
          rw [hp] at IS
          have KN := Lib.hid (KP.out.keep hc hp)
          clear hc hm KP OW
          go_wp2_with fail
          refine IS.mono ?_
          rintro _ w7 ⟨rfl, hx⟩
          have G7 := Lib.hid (GA.out.trans (grown_of hx (some g)))
          have O7 := Lib.hid (OA.out.kept (grown_of hx none) (by simp))
          have H7 := ((ext_iff.1 hx).block _ (lt_of_heap HA.out)).trans HA.out
          obtain ⟨b0, b1, b2, b3⟩ := cell_cells (c := ⟨c1, c2, c3, c4⟩) H7
          dsimp only at b0 b1 b2 b3
          have hi7 : i < m.length := by omega
          clear IS hx GA OA HA
          go_wp2_with (refine store_row (i := i) (l := m) ⟨c1, c2, c3, c4⟩ (.tmp 33) (.tmp 32) rfl rfl rfl rfl O7.out hi7 ?_; intro w8 O8 g8)
          go_roundw
          case rel => exact ⟨i + 1, j + 1, _, by go_num, by go_num, KN, Lib.hid O8, Lib.hid (G7.out.trans g8)⟩
          case measure => simp [intOf]; omega
      · obtain rfl : j = l.length := by omega
        have hilt : (i : Int) < l.length := by omega
        have hil : i < m.length := by omega
        obtain ⟨w8, hcl, O8, g8⟩ := clear_rows (m := l.length - i) (c := cap - i) OW.out hil (by omega)
        have O8 := Lib.hid O8
        have g8 := Lib.hid (GR.out.trans g8)
        go_wp2_with fail
        go_ret
        refine ⟨_, rfl, ?_, g8.out⟩
        have hh := KP.out.head
        rw [List.take_length] at hh
        rw [← hh]
        have hll : (m.take i ++ List.replicate (l.length - i) zeroC).length = l.length := by simp; omega
        obtain ⟨g', cap', cur, hv, hbs, hhp, h1, h2, h3, h4⟩ := ownsCl_form O8.out (by intro e; rw [e] at hll; simp at hll; omega)
        rw [hll] at hv
        cases hv
        have hti : (m.take i).length = i := by simp; omega
        refine ⟨by rw [flatC_length], .inr ⟨g, cap, cur, by rw [hti]; rfl, hbs, hhp, by omega, h2, h3, ?_⟩⟩
        rw [hti]
        have h5 := congrArg (List.take (i * 4)) h4
        rw [List.take_take, hll, Nat.min_eq_left (by omega), flatC_take, List.take_append, hti, Nat.sub_self, List.take_zero, List.append_nil, List.take_take, Nat.min_self] at h5
        exact h5
theorem delG_any (p : Cell → Bool) (x1 x2 : Value) (base : Nat) (v : Value) (l : List Cell) (w : World) (h : ownsCl w base v l) (hl : l.length ≤ 1099511627776)
    (hf : ∀ c W, w.grownBy W v.ownBlock → Calls Tryz.prog 31 #[.agg (cellVs c).toArray, x1, x2] W (Res (p c) W)) :
    Calls Tryz.prog 29 #[v, .func (.func 31) #[] #[x1, x2]] w fun x w' =>
      ∃ v', x = .returned v' ∧ ownsCl w' base v' (l.filter fun c => !p c) ∧ w.grownBy w' v.ownBlock := by
  by_cases h0 : l = []
  · subst h0
    obtain ⟨q, cap, rfl⟩ := rows_shape h
    have OW := Lib.hid h
    clear h
    go_enter Tryz.func29, Tryz.ntmps29
    go_wp2_with fail
    refine (idxR_none _ _ _ _).mono ?_
    rintro _ w2 ⟨rfl, rfl⟩
    go_wp2_with fail
    go_ret
    exact ⟨_, rfl, OW.out, grown_of (ext_refl _) _⟩
  · obtain ⟨g, cap, cur, rfl, hg, hh, h1, _⟩ := ownsCl_form h h0
    exact delG_some p x1 x2 base g cap l w h (by cases l; exact absurd rfl h0; simp) hl h1 (lt_of_heap hh) hf
end Go.Proofs.YtafdigdopeahdaaGreatDoor
namespace Go.Proofs.YtafdigdopeahdaaGreatDoor
open Go.RowKit Go.Shelf

theorem evs_rest {w : World} {g o cp i : Nat} {l : List Ev} (h : evsAt w (some ⟨g, o, none⟩) l) (hcp : l.length ≤ cp) : evsAt w (if cp = i then some ⟨g, o, none⟩ else some ⟨g, o + i * 5, none⟩) (l.drop i) := by
  rcases h with h | ⟨g', o', hq, hg, hc⟩
  · subst h; exact .inl (by simp)
  · simp only [Option.some.injEq, Addr.mk.injEq, and_true] at hq
    obtain ⟨rfl, rfl⟩ := hq
    by_cases h0 : i < l.length
    · rw [if_neg (by omega)]
      refine .inr ⟨g, _, rfl, hg, fun j e hj t v hv => ?_⟩
      rw [List.getElem?_drop] at hj
      have := hc _ e hj t v hv
      rw [show o + i * 5 + j * 5 + t = o + (i + j) * 5 + t by omega]
      exact this
    · exact .inl (List.drop_eq_nil_of_le (by omega))
theorem txt_eq (a b : ByteArray) : decide (txt a = txt b) = (a.toList == b.toList) := by
  rw [ByteArray.toList_eq, ByteArray.toList_eq, Bool.eq_iff_iff, decide_eq_true_eq, beq_iff_eq]
  exact Iff.rfl
set_option maxRecDepth 100000 in
set_option maxHeartbeats 1000000 in
theorem gone1_any (e : Ev) (s : ByteArray) (sb : Nat) (w : World) (hl : sb < w.heap.size) (h : w.cell? ⟨sb, 0, none⟩ = some (.string s)) :
    Calls Tryz.prog 28 #[.agg (evVs e).toArray, .pointer (some ⟨sb, 0, none⟩)] w (Res (decide (e.kind = 3) && decide (txt e.subject = txt s)) w) := by
  obtain ⟨k, u, t, r, v⟩ := e
  unfold evVs
  dsimp only
  rw [txt_eq]
  by_cases hk : k = 3
  · have hk' : (k == 3) = true := by simp [hk]
    rw [decide_eq_true hk, Bool.true_and]
    clear hk
    cases h1 : (u.toList == s.toList)
    all_goals
      go_enter Tryz.func28, Tryz.ntmps28
      go_wp2_with fail
      go_ret
      exact ⟨rfl, ext_alloc _ (ext_refl w)⟩
  · have hk' : (k == 3) = false := by simp [hk]
    rw [decide_eq_false hk, Bool.false_and]
    go_enter Tryz.func28, Tryz.ntmps28
    go_wp2_with fail
    go_ret
    exact ⟨rfl, ext_alloc _ (ext_refl w)⟩
set_option maxRecDepth 100000 in
set_option maxHeartbeats 1000000 in
theorem gone_any (i : Nat) (s : ByteArray) (ob g o cp : Nat) (ok : List Ev) (w : World) (hl : ob < w.heap.size) (h : w.cell? ⟨ob, 0, none⟩ = some (.slice (some ⟨g, o, none⟩) ok.length cp)) (hi : i ≤ ok.length) (hcp : ok.length ≤ cp) (hz : ok.length ≤ 1048576) (he : evsAt w (some ⟨g, o, none⟩) ok) :
    Calls Tryz.prog 26 #[.int .i64 i, .string s, .pointer (some ⟨ob, 0, none⟩)] w (Res (goneIn (ok.drop i) s) w) := by
  have B1 := ext_alloc (.cells #[.string s] 9) (ext_refl w)
  have hb1 := ext_iff.1 B1
  have HS := heap_alloc_at w (.cells #[.string s] 9)
  have R := evs_rest (i := i) (evsAt_of he (fun k hk => hb1.block k hk) hb1.size) hcp
  have hlen : ok.length - i = (ok.drop i).length := by simp
  have AN := anyE_any (α := Ev) id (fun e => decide (e.kind = 3) && decide (txt e.subject = txt s)) 28 #[.pointer (some ⟨w.heap.size, 0, none⟩)] (enters_of Tryz.func28 (by kernel_rfl) rfl) _ (cp - i) (ok.drop i) _
    (fun W e hB => (gone1_any e s w.heap.size W (Nat.lt_of_lt_of_le (lt_of_heap HS) hB.size) (cell_below (p := ⟨w.heap.size, 0, none⟩) hB (lt_of_heap HS) (by rw [cell_in, HS]; rfl))).mono fun e w' ⟨h1, h2⟩ => ⟨h1, hB.trans ((ext_iff.1 h2).mono hB.size)⟩)
    (by rw [← hlen]; omega) (by rw [List.map_id]; exact R)
  rw [← hlen] at AN
  have B1 := Lib.hid B1
  unfold goneIn
  generalize (ok.drop i).any (fun e => decide (e.kind = 3) && decide (txt e.subject = txt s)) = bb at AN ⊢
  generalize ok.length = n at h hi hcp hz AN
  have hi' : (i : Int) ≤ n := Int.ofNat_le.2 hi
  have hcp' : (n : Int) ≤ cp := Int.ofNat_le.2 hcp
  clear he hb1 HS R hlen
  go_enter Tryz.func26, Tryz.ntmps26
  go_wp2_with (go_at_call 27; generalize (if cp = i then (some ⟨g, o, none⟩ : Option Addr) else some ⟨g, o + i * 5, none⟩) = qa at AN ⊢; refine AN.mono ?_; rintro _ wz ⟨rfl, hz⟩; have hz := Lib.hid (ext_trans B1.out hz))
  go_ret
  exact ⟨rfl, hz.out⟩
set_option maxRecDepth 100000 in
set_option maxHeartbeats 1000000 in
theorem late2_any (c : Cell) (i gb ib ob g o cp : Nat) (ok : List Ev) (w : World) (hgl : gb < w.heap.size) (hil : ib < w.heap.size) (hG : w.cell? ⟨gb, 0, none⟩ = some (.func (.func 26) #[] #[.pointer (some ⟨ob, 0, none⟩)])) (hI : w.cell? ⟨ib, 0, none⟩ = some (.int .i64 i))
    (hl : ob < w.heap.size) (h : w.cell? ⟨ob, 0, none⟩ = some (.slice (some ⟨g, o, none⟩) ok.length cp)) (hi : i + 1 ≤ ok.length) (hcp : ok.length ≤ cp) (hz : ok.length ≤ 1048576) (he : evsAt w (some ⟨g, o, none⟩) ok) :
    Calls Tryz.prog 31 #[.agg (cellVs c).toArray, .pointer (some ⟨gb, 0, none⟩), .pointer (some ⟨ib, 0, none⟩)] w (Res (goneIn (ok.drop (i + 1)) c.subject) w) := by
  obtain ⟨c1, c2, c3, c4⟩ := c
  have B1 := ext_alloc (.cells #[.string c1, .string c2, .string c3, .string c4] 45) (ext_refl w)
  have hb1 := ext_iff.1 B1
  have GO := gone_any (i + 1) c3 ob g o cp ok _ (Nat.lt_of_lt_of_le hl hb1.size) (cell_below (p := ⟨ob, 0, none⟩) hb1 hl h) hi hcp hz (evsAt_of he (fun k hk => hb1.block k hk) hb1.size)
  have B1 := Lib.hid B1
  generalize goneIn (ok.drop (i + 1)) c3 = bb at GO ⊢
  rw [show ((i + 1 : Nat) : Int) = (i : Int) + 1 from rfl] at GO
  have hi' : (i : Int) + 1 ≤ 1048576 := by omega
  unfold cellVs
  dsimp only
  clear h he hb1 hi hcp hz
  go_enter Tryz.func31, Tryz.ntmps31
  go_wp2_with fail
  refine GO.mono ?_
  rintro _ wz ⟨rfl, hz⟩
  have hz := Lib.hid (ext_trans B1.out hz)
  go_wp2_with fail
  go_ret
  exact ⟨rfl, hz.out⟩
end Go.Proofs.YtafdigdopeahdaaGreatDoor
namespace Go.Proofs.YtafdigdopeahdaaGreatDoor
open Go.RowKit Go.Shelf

def fedP : Ev := ⟨1, ⟨#[97, 110, 110]⟩, ⟨#[116]⟩, ⟨#[114]⟩, ⟨#[118]⟩⟩
def fedG : Ev := ⟨3, ⟨#[97, 110, 110]⟩, ⟨#[]⟩, ⟨#[]⟩, ⟨#[]⟩⟩
theorem fedP_right : rightE okV fedP = true := by decide +kernel
theorem fedG_right : rightE okV fedG = true := by decide +kernel
def fedMany : ByteArray → Nat := toldMany (fun _ => 0) (fun _ => false) fedP
def fedHas : ByteArray → Bool := toldHas (fun _ => false) fedP
theorem fedP_told (sec : ByteArray) : ∃ body, toldR sec (fun _ => 0) (fun _ => false) [] fedP = ⟨1, ⟨#[97, 110, 110]⟩, 1, noneS, body⟩ ∧ body.size = 29 := by
  refine ⟨_, rfl, ?_⟩
  show (mkS (sealB _ _ _ _)).size = 29
  rw [mkS_size, sealB_length]
  rfl
theorem fed_more : tellX (fun _ => false) fedP = 0 ∧ tellX fedHas fedG = 0 ∧ fedMany fedP.subject = 1 ∧ fedHas fedP.subject = true := by
  refine ⟨?_, ?_, ?_, ?_⟩
  · unfold tellX; rw [fedP_right]; rfl
  · unfold tellX; rw [fedG_right]; rfl
  · rfl
  · rfl
set_option maxRecDepth 100000 in
set_option maxHeartbeats 4000000 in
theorem fed_any (w : World) (hG : Glob w none0) : Calls Tryz.prog 8 #[] w (Res true w) := by
  have GG := Lib.hid hG
  clear hG
  have SN := vnew_in ⟨#[48, 49, 50, 51, 52, 53, 54, 55, 56, 57, 97, 98, 99, 100, 101, 102]⟩ w rfl
  go_enter Tryz.func8, Tryz.ntmps8
  go_wp2_with fail
  refine SN.mono ?_
  rintro _ w1 ⟨vb, V, rfl, hv, hs⟩
  have V1 := Lib.hid hv
  have S1 := Lib.hid hs
  clear hv hs SN
  go_wp2_with fail
  refine (fnew_any vb w1).mono ?_
  rintro _ w2 ⟨fb, R, rfl, hf, hs2, hx⟩
  have F2 := Lib.hid hf
  have V2 := Lib.hid (V1.out.ext hx)
  have AP := Lib.hid (show apart V R from fun i h1 h2 => by have := V1.out.lt i h1; have := hs2.new h2; omega)
  have S2 := Lib.hid ((S1.out.trans (.of_ext V hx)).more (F' := fun i => V i ∨ R i) (fun i hi => by
    rcases hi with hi | hi
    · exact .inl hi
    · have h9 := hs2.new hi; have := S1.out.size; exact .inr ⟨by omega, h9.2⟩))
  clear hf hs2 hx V1 S1
  have G2 := Lib.hid (GG.out.step S2.out)
  have HD := fhead_any w2 R fb vb [] F2.out G2.out.rounds
  rw [headR_nil] at HD
  unfold noneS at HD
  go_wp2_with fail
  refine HD.mono ?_
  rintro _ w3 ⟨rfl, hx⟩
  have F3 := Lib.hid ((F2.out.ext hx).ext (ext_alloc (.cells (evV fedP) 40) (ext_refl w3)))
  have V3 := Lib.hid ((V2.out.ext hx).ext (ext_alloc (.cells (evV fedP) 40) (ext_refl w3)))
  have G3 := Lib.hid ((G2.out.ext hx).ext (ext_alloc (.cells (evV fedP) 40) (ext_refl w3)))
  have S3 := Lib.hid (S2.out.trans ((step.of_ext (fun i => V i ∨ R i) hx).trans (.alloc w3 (.cells (evV fedP) 40) _)))
  have E3 := Lib.hid (heap_alloc_at w3 (.cells (evV fedP) 40))
  have EN := Lib.hid (show ¬ (V w3.heap.size ∨ R w3.heap.size) from fun h => by have h2 := (ext_iff.1 hx).size; rcases h with h | h; have := V2.out.lt _ h; omega; have := F2.out.lt _ h; omega)
  clear hx F2 V2 G2 S2 HD
  have TL := (ftell_any fedP _ V R fb vb 0 _ _ _ [] V3.out F3.out AP.out G3.out (by decide) (by decide) (by decide) (by decide) (by decide) (by decide)).mono fun r w' h => told_all h
  rw [fed_more.1, if_pos rfl, if_pos rfl, if_pos rfl, if_pos rfl, if_pos rfl] at TL
  obtain ⟨body, hb1, hb2⟩ := fedP_told ⟨#[48, 49, 50, 51, 52, 53, 54, 55, 56, 57, 97, 98, 99, 100, 101, 102]⟩
  have IT := Lib.hid (toldR_is ⟨#[48, 49, 50, 51, 52, 53, 54, 55, 56, 57, 97, 98, 99, 100, 101, 102]⟩ (fun _ => 0) (fun _ => false) [] fedP_right (fun h => by cases h))
  rw [hb1] at TL IT
  rw [show toldMany (fun _ => 0) (fun _ => false) fedP = fedMany from rfl, show toldHas (fun _ => false) fedP = fedHas from rfl, List.nil_append] at TL
  clear hb1
  unfold recV evV fedP noneS at TL
  unfold evV fedP at E3 F3 V3 G3 S3
  dsimp only at TL E3 F3 V3 G3 S3
  have hbz : (body.size : Int) = 29 := by omega
  have HB2 := Lib.hid hb2
  clear hb2
  go_wp2_with fail
  generalize w3.alloc (.cells #[.int .i64 1, .string ⟨#[97, 110, 110]⟩, .string ⟨#[116]⟩, .string ⟨#[114]⟩, .string ⟨#[118]⟩] 40) = w4 at E3 F3 V3 G3 S3 TL ⊢
  obtain ⟨e0, e1, e2, e3, e4⟩ := ev_cells E3.out
  have le := lt_of_heap E3.out
  go_wp2_with fail
  refine TL.mono ?_
  rintro _ w5 ⟨rfl, R', hv5, hf5, hs5, hR5⟩
  have V5 := Lib.hid (hv5.ext (ext_alloc (.cells #[.int .i64 1, .string ⟨#[97, 110, 110]⟩, .int .i64 1, .string ⟨#[0, 0, 0, 0, 0, 0, 0, 0, 0, 0, 0, 0, 0, 0, 0, 0]⟩, .string body] 36) (ext_refl w5)))
  have F5 := Lib.hid (hf5.ext (ext_alloc (.cells #[.int .i64 1, .string ⟨#[97, 110, 110]⟩, .int .i64 1, .string ⟨#[0, 0, 0, 0, 0, 0, 0, 0, 0, 0, 0, 0, 0, 0, 0, 0]⟩, .string body] 36) (ext_refl w5)))
  have hst := hs5.trans (.alloc w5 (.cells #[.int .i64 1, .string ⟨#[97, 110, 110]⟩, .int .i64 1, .string ⟨#[0, 0, 0, 0, 0, 0, 0, 0, 0, 0, 0, 0, 0, 0, 0, 0]⟩, .string body] 36) _)
  have G5 := Lib.hid (G3.out.step hst)
  have S5 := Lib.hid (S3.out.trans hst)
  have E5 := Lib.hid ((hst.keep (lt_of_heap E3.out) EN.out).1.trans E3.out)
  have AP5 := Lib.hid (show apart V R' from fun i h1 h2 => (hR5 i h2).elim (AP.out i h1) (fun h => by have := V3.out.lt i h1; omega))
  have P5 := Lib.hid (heap_alloc_at w5 (.cells #[.int .i64 1, .string ⟨#[97, 110, 110]⟩, .int .i64 1, .string ⟨#[0, 0, 0, 0, 0, 0, 0, 0, 0, 0, 0, 0, 0, 0, 0, 0]⟩, .string body] 36))
  have PN := Lib.hid (show ¬ (V w5.heap.size ∨ R' w5.heap.size) from fun h => by rcases h with h | h; exact Nat.lt_irrefl _ (hv5.lt _ h); exact Nat.lt_irrefl _ (hf5.lt _ h))
  have EN5 := Lib.hid (hst.keep (lt_of_heap E3.out) EN.out).2.2
  have hl5 : w3.heap.size < w5.heap.size := Nat.lt_of_lt_of_le (lt_of_heap E3.out) hs5.size
  have ce := ev_cells (((hs5.keep (lt_of_heap E3.out) EN.out).1).trans E3.out)
  clear hv5 hf5 hs5 hR5 hst TL e0 e1 e2 e3 e4 le E3 F3 V3 G3 S3 AP EN
  obtain ⟨e0, e1, e2, e3, e4⟩ := ce
  go_wp2_with fail
  generalize w5.alloc (.cells #[.int .i64 1, .string ⟨#[97, 110, 110]⟩, .int .i64 1, .string ⟨#[0, 0, 0, 0, 0, 0, 0, 0, 0, 0, 0, 0, 0, 0, 0, 0]⟩, .string body] 36) = w6 at V5 F5 G5 S5 E5 P5 ⊢
  have LST : lostR fedMany fedHas ⟨1, ⟨#[97, 110, 110]⟩, 1, noneS, body⟩ = false := rfl
  have OP := fopen_any fedP _ w6 V vb 2 _ _ _ V5.out (G5.out.sub (fun i h => .inl h)) IT.out (show (1 : Int) ≤ ((1 : Nat) : Int) by decide)
  unfold OpenPost openV at OP
  rw [LST, if_neg (by simp), if_neg (by simp)] at OP
  clear LST
  unfold recV evV fedP noneS at OP
  dsimp only at OP
  refine OP.mono ?_
  rintro _ w7 ⟨rfl, hx⟩
  have h87 := (ext_iff.1 hx)
  have V7 := Lib.hid ((V5.out.ext hx).ext (ext_alloc (.cells #[.int .i64 1, .string ⟨#[97, 110, 110]⟩, .string ⟨#[116]⟩, .string ⟨#[114]⟩, .string ⟨#[118]⟩] 40) (ext_refl w7)))
  have F7 := Lib.hid ((F5.out.ext hx).ext (ext_alloc (.cells #[.int .i64 1, .string ⟨#[97, 110, 110]⟩, .string ⟨#[116]⟩, .string ⟨#[114]⟩, .string ⟨#[118]⟩] 40) (ext_refl w7)))
  have hst := (step.of_ext (fun i => V i ∨ R' i) hx).trans (.alloc w7 (.cells #[.int .i64 1, .string ⟨#[97, 110, 110]⟩, .string ⟨#[116]⟩, .string ⟨#[114]⟩, .string ⟨#[118]⟩] 40) _)
  have G7 := Lib.hid (G5.out.step hst)
  have S7 := Lib.hid (S5.out.trans hst)
  have P7 := Lib.hid ((hst.keep (lt_of_heap P5.out) PN.out).1.trans P5.out)
  have ce := ev_cells ((h87.block _ (lt_of_heap E5.out)).trans E5.out)
  have le7 : w3.heap.size < w7.heap.size := Nat.lt_of_lt_of_le (lt_of_heap E5.out) h87.size
  clear hx h87 hst V5 F5 G5 S5 P5 E5 OP e0 e1 e2 e3 e4
  obtain ⟨e0, e1, e2, e3, e4⟩ := ce
  have TL := (ftell_any fedG _ V R' fb vb 2 _ fedMany fedHas _ V7.out F7.out AP5.out G7.out (by decide) (by decide) (by decide) (by decide) (by decide) (by show 1 < 100; decide)).mono fun r w' h => told_all h
  rw [fed_more.2.1, if_pos rfl, if_pos rfl, if_pos rfl, if_pos rfl, if_pos rfl] at TL
  generalize toldR _ fedMany fedHas _ fedG = r2 at TL
  obtain ⟨q2, u2, g2, p2, b2⟩ := r2
  have hm2 : toldMany fedMany fedHas fedG = fedMany := rfl
  rw [hm2] at TL
  clear hm2
  have HLST : Hid (lostR fedMany (toldHas fedHas fedG) ⟨1, ⟨#[97, 110, 110]⟩, 1, noneS, body⟩ = true) := Lib.hid rfl
  generalize toldHas fedHas fedG = has3 at TL HLST
  unfold recV evV fedG at TL
  dsimp only at TL
  go_wp2_with fail
  refine TL.mono ?_
  rintro _ w8 ⟨rfl, R3, hv8, hf8, hs8, hR8⟩
  have hst := hs8.trans (.alloc w8 (.cells #[.int .i64 q2, .string u2, .int .i64 g2, .string p2, .string b2] 36) _)
  have V8 := Lib.hid (hv8.ext (ext_alloc (.cells #[.int .i64 q2, .string u2, .int .i64 g2, .string p2, .string b2] 36) (ext_refl w8)))
  have G8 := Lib.hid (G7.out.step hst)
  have S8 := Lib.hid (S7.out.trans hst)
  have hk8 := hs8.keep (lt_of_heap P7.out) (by
    intro h
    rcases h with h | h
    · exact PN.out (.inl h)
    · exact PN.out (.inr h))
  have cp := rec_cells (r := ⟨1, ⟨#[97, 110, 110]⟩, 1, noneS, body⟩) (hk8.1.trans P7.out)
  have lp8 : w5.heap.size < w8.heap.size := hk8.2.1
  clear hst hv8 hf8 hs8 hR8 hk8 TL V7 F7 G7 S7 P7 e0 e1 e2 e3 e4 le7
  obtain ⟨p0', p1', p2', p3', p4'⟩ := cp
  unfold noneS at p3'
  dsimp only at p0' p1' p2' p3' p4'
  go_wp2_with fail
  generalize w8.alloc (.cells #[.int .i64 q2, .string u2, .int .i64 g2, .string p2, .string b2] 36) = w9 at V8 G8 S8 ⊢
  have OP := fopen_any fedP _ w9 V vb 4 _ _ _ V8.out (G8.out.sub (fun i h => .inl h)) IT.out (show (1 : Int) ≤ ((1 : Nat) : Int) by decide)
  unfold OpenPost openV at OP
  unfold noneS at OP HLST
  rw [HLST.out, if_pos rfl, if_pos rfl] at OP
  unfold recV evV zeroE at OP
  dsimp only at OP
  refine OP.mono ?_
  rintro _ w10 ⟨rfl, hx⟩
  have S9 := Lib.hid (S8.out.trans (.of_ext _ hx))
  have G9 := Lib.hid (G8.out.ext hx)
  clear hx OP
  go_wp2_with fail
  refine (tell_any (errV 8) (.no 8) w10 G9.out.err).mono ?_
  rintro _ w11 ⟨rfl, hx⟩
  have X := Lib.hid (S9.out.trans (.of_ext _ hx)).ext
  clear hx
  go_wp2_with fail
  go_ret
  exact ⟨rfl, X.out⟩
end Go.Proofs.YtafdigdopeahdaaGreatDoor
namespace Go.Proofs.YtafdigdopeahdaaGreatDoor

theorem few_sizes {l : List Ev} (h : fewB l = true) : l.length ≤ 30 ∧ ∀ e ∈ l, e.subject.size ≤ 1048576 ∧ e.table.size ≤ 1048576 ∧ e.row.size ≤ 1048576 ∧ e.value.size ≤ 1048576 := by
  unfold fewB at h
  simp only [Bool.and_eq_true, decide_eq_true_eq, Bool.not_eq_true', List.any_eq_false] at h
  refine ⟨by omega, fun e he => ?_⟩
  have := h.2 e he
  unfold longE at this
  simp only [Bool.or_eq_true, decide_eq_true_eq, not_or, Int.not_lt] at this
  omega
theorem run1_prefix (sec : ByteArray) (R : RunM) (e : Ev) : ∃ t, (run1 sec R e).S.L = R.S.L ++ t := by
  unfold run1
  split
  · rename_i hx
    show ∃ t, (doS sec R.S e).L = _
    rw [doS_yes hx]
    exact ⟨_, rfl⟩
  · exact ⟨[], by simp⟩
theorem runs_prefix (sec : ByteArray) : ∀ (m : List Ev) (R : RunM), ∃ t, (m.foldl (run1 sec) R).S.L = R.S.L ++ t
  | [], _ => ⟨[], by simp⟩
  | e :: m, R => by
    obtain ⟨t1, h1⟩ := run1_prefix sec R e
    obtain ⟨t2, h2⟩ := runs_prefix sec m (run1 sec R e)
    exact ⟨t1 ++ t2, by rw [List.foldl_cons, h2, h1, List.append_assoc]⟩
theorem run_prefix (sec : ByteArray) (l m : List Ev) : ∃ t, (runM sec (l ++ m)).S.L = (runM sec l).S.L ++ t := by
  unfold runM
  rw [List.foldl_append]
  exact runs_prefix sec m _
/-- How long a told record's body is. -/
theorem isTold.long {sec : ByteArray} {r : Rec} {e : Ev} (h : isTold sec r e) : r.body.size = if e.kind = 3 then (printL e).length else (printL e).length + 16 := by
  have hl : (mkT (printL e)).size = (printL e).length := by show (printL e).toArray.size = _; rw [List.size_toArray]
  by_cases hk : e.kind = 3
  · rw [(h.gone hk).2, if_pos hk, hl]
  · rw [(h.kept hk).2, if_neg hk, mkS_size, sealB_length, hl]; omega
end Go.Proofs.YtafdigdopeahdaaGreatDoor
namespace Go.Proofs.YtafdigdopeahdaaGreatDoor
open Go.RowKit Go.Shelf

def rdJ (v : Value) (w : World) : Nat := match v with
  | .pointer (some a) => match w.cell? a with
    | some (.int _ n) => n.toNat
    | _ => 0
  | _ => 0
theorem cellJ {w : World} {b : Nat} {v : Value} {t : TypeId} {f : Nat × Nat} (h : w.heap[b]? = some (.cells #[v] t f)) : w.cell? ⟨b, 0, none⟩ = some v := by rw [cell_in, h]; rfl
theorem rdJ_at {w : World} {b : Nat} {n : Nat} {t : TypeId} {f : Nat × Nat} (h : w.heap[b]? = some (.cells #[.int .i64 n] t f)) : rdJ (.pointer (some ⟨b, 0, none⟩)) w = n := by
  unfold rdJ; dsimp only; rw [cellJ h]; simp
theorem ownsEl_cap {w : World} {base n c : Nat} {q : Option Addr} {l : List Ev} (h : ownsEl w base (.slice q n c) l) : n ≤ c ∧ n = l.length := by
  obtain ⟨_, ⟨h1, h2⟩ | ⟨g, cap', cur, h1, _, _, h2, _⟩⟩ := h
  · injection h1 with _ h1 h3; subst h1 h3; exact ⟨Nat.le_refl _, h2.symm⟩
  · injection h1 with _ h1 h3; subst h1 h3; exact ⟨h2, rfl⟩
/-- What stands as the loop goes on: a reader of the first m records, the count k in a box. -/
structure lateIn (w0 w : World) (D : Blk) (rb vb ib k m : Nat) (q : Option Addr) (R : RunM) : Prop where
  rdr : rdIn w D rb vb m (follR R m)
  st : step w0 w none0 (fun i => D i ∨ i = ib)
  box : w.heap[ib]? = some (.cells #[.int .i64 k] 3 (0, 0))
  off : ¬ D ib
  recs : recsAt w q R.S.L
  offq : ∀ a, q = some a → ¬ D a.block ∧ a.block ≠ ib ∧ a.block < w.heap.size
section
variable {w0 w w' : World} {D D' : Blk} {rb vb ib k m : Nat} {q : Option Addr} {R : RunM}
theorem lateIn.ext (h : lateIn w0 w D rb vb ib k m q R) (hx : ∃ x, w' = Go.Proofs.YtafdigdopeahdaaGreatDoor.ext w x) : lateIn w0 w' D rb vb ib k m q R :=
  have hb := ext_iff.1 hx
  ⟨h.rdr.ext hx, h.st.trans (.of_ext _ hx), (hb.block ib (lt_of_heap h.box)).trans h.box, h.off, recsAt_of h.recs (fun k hk => hb.block k hk) hb.size, fun a ha => ⟨(h.offq a ha).1, (h.offq a ha).2.1, Nat.lt_of_lt_of_le (h.offq a ha).2.2 hb.size⟩⟩
theorem lateIn.read {m' : Nat} (h : lateIn w0 w D rb vb ib k m q R) (hr : rdIn w' D' rb vb m' (follR R m')) (g : step w w' D D') : lateIn w0 w' D' rb vb ib k m' q R := by
  have hib := lt_of_heap h.box
  obtain ⟨k1, k2, k3⟩ := g.keep hib h.off
  refine ⟨hr, h.st.trans ((g.lift (A := fun i => D i ∨ i = ib) (fun _ hi => .inl hi)).more (fun i hi => ?_)), k1.trans h.box, k3, recsAt_same h.recs (fun a ha => g.block _ (h.offq a ha).2.2 (h.offq a ha).1) g.size, fun a ha => ?_⟩
  · rcases hi with h1 | h1
    · exact .inl (.inr h1)
    · exact .inl (.inl (.inr h1))
  · obtain ⟨_, j2, j3⟩ := g.keep (h.offq a ha).2.2 (h.offq a ha).1
    exact ⟨j3, (h.offq a ha).2.1, j2⟩
theorem lateIn.new (h : lateIn w0 w D rb vb ib k m q R) (k' : Nat) : lateIn w0 (w.alloc (.cells #[.int .i64 k'] 3)) D rb vb w.heap.size k' m q R := by
  have hx := ext_alloc (.cells #[.int .i64 k'] 3) (ext_refl w)
  have h' := h.ext hx
  refine ⟨h'.rdr, h'.st.more (fun i hi => ?_), heap_alloc_at w _, fun hD => ?_, h'.recs, fun a ha => ⟨(h'.offq a ha).1, fun e => ?_, (h'.offq a ha).2.2⟩⟩
  · rcases hi with h1 | rfl
    · exact .inl (.inl h1)
    · exact .inr ⟨h.st.size, by simp⟩
  · have := h.rdr.lt _ hD; omega
  · have := (h.offq a ha).2.2; omega
end
/-- What 'done' has, where the source's own blocks stand still. -/
theorem rowHeld_at {w w' : World} {A : Blk} {v : Value} {r : List Cell} (h : rowHeld w A v r) (hx : ∃ x, w' = Go.Proofs.YtafdigdopeahdaaGreatDoor.ext w x) : ∃ q cap, v = .slice q r.length cap ∧ cellsIn w' q r := by
  obtain ⟨q, cap, h1, h2, _⟩ := h.step (Go.Proofs.YtafdigdopeahdaaGreatDoor.step.of_ext A hx)
  exact ⟨q, cap, h1, h2⟩
theorem evsAt_blk {w W : World} {g o : Nat} {l : List Ev} (h : evsAt w (some ⟨g, o, none⟩) l) (hk : W.heap[g]? = w.heap[g]?) (hs : w.heap.size ≤ W.heap.size) : evsAt W (some ⟨g, o, none⟩) l := by
  rcases h with h | ⟨g', o', hq, hg, hc⟩
  · exact .inl h
  · simp only [Option.some.injEq, Addr.mk.injEq, and_true] at hq
    obtain ⟨rfl, rfl⟩ := hq
    refine .inr ⟨g, o, rfl, Nat.lt_of_lt_of_le hg hs, fun j e hj t v hv => ?_⟩
    have := hc j e hj t v hv
    rw [cell_in] at this ⊢
    rw [hk]; exact this
set_option maxRecDepth 100000 in
set_option maxHeartbeats 8000000 in
theorem readerLate_any (q1 : Option Addr) (cp1 : Nat) (l : List Ev) (w : World) (hl : l.length ≤ 9223372036854775807) (h1 : evsAt w q1 l) (hG : Glob w none0) :
    Calls Tryz.prog 5 #[.slice q1 l.length cp1] w (Res true w) := by
  have F1 := few_any q1 cp1 l w hl h1
  have S1 := Lib.hid (fun h : fewB l = true => few_sizes h)
  have E1 := Lib.hid h1
  have GG := Lib.hid hG
  clear h1 hG
  go_enter Tryz.func5, Tryz.ntmps5
  go_wp2_with fail
  refine F1.mono ?_
  rintro _ w1 ⟨rfl, hx⟩
  have X1 := Lib.hid hx
  clear hx F1
  generalize fewB l = few1 at S1
  cases few1 with
  | false =>
    go_wp2_with fail
    go_ret
    exact ⟨rfl, X1.out⟩
  | true =>
    obtain ⟨hl30, hls⟩ := S1.out (by trivial)
    have HLS := Lib.hid hls
    clear S1 hls
    go_wp2_with fail
    refine (fed_any w1 (GG.out.ext X1.out)).mono ?_
    rintro _ w1' ⟨rfl, hx⟩
    have X1' := Lib.hid (ext_trans X1.out hx)
    clear hx X1
    go_wp2_with fail
    refine (applied_any w1').mono ?_
    rintro _ w2 ⟨rfl, hx⟩
    have X2 := Lib.hid (ext_trans X1'.out hx)
    clear hx X1'
    have B2 := Lib.hid (ext_iff.1 X2.out)
    have DN := done_any q1 cp1 l w2 (by omega) HLS.out (E1.out.at B2.out (Nat.le_refl _)) (GG.out.ext X2.out)
    go_wp2_with fail
    refine DN.mono ?_
    rintro _ w3 ⟨sb, vb, V, F, A, vo, vr, vs, rfl, hd3⟩
    have D3 := Lib.hid hd3
    have HRU := Lib.hid (runs secS l)
    have OKL := Lib.hid (show (runM secS l).ok.length ≤ 30 from by have := ok_len secS l; omega)
    clear hd3 DN B2
    generalize runM secS l = R at D3 HRU OKL
    have HLE := Lib.hid HRU.out.inv.len
    obtain ⟨qo, co, rfl⟩ := ownsEl_shape D3.out.oks
    obtain ⟨qr, cr, rfl⟩ := ownsSl_shape D3.out.rws
    have CPO := (ownsEl_cap D3.out.oks).1
    go_wp2_with fail
    have OB4 := Lib.hid (heap_alloc_at w3 (.cells #[.slice qo R.ok.length co] 22))
    have D4 := Lib.hid (D3.out.ext (ext_alloc (.cells #[.slice qo R.ok.length co] 22) (ext_refl w3)))
    clear D3
    generalize w3.alloc (.cells #[.slice qo R.ok.length co] 22) = w4 at OB4 D4 ⊢
    generalize w3.heap.size = ob at OB4 ⊢
    have VI := Lib.hid D4.out.src.vault.1
    have GV := Lib.hid ((GG.out.ext X2.out).step (D4.out.st.more (F' := V) (fun i hi => .inl (D4.out.sub i (D4.out.src.vault.2 i hi)))))
    have EO := Lib.hid (evsAt_owned D4.out.oks)
    have X4 := Lib.hid (ext_trans X2.out D4.out.st.ext)
    have hob := lt_of_heap OB4.out
    go_wp2_with fail
    refine (svault_any w4 V F sb vb _ secS _ D4.out.src).mono ?_
    rintro _ w5 ⟨rfl, rfl⟩
    go_wp2_with fail
    refine (rnew_any vb w4).mono ?_
    rintro _ w5 ⟨rb, D, rfl, hr5, hs5, hx5⟩
    have R5 := Lib.hid hr5
    have S5 := Lib.hid hs5
    have D5 := D4.out.src.ext hx5
    clear hr5 hs5 hx5
    go_wp2_with fail
    refine (sfeed_any w5 V F sb vb _ secS _ D5).mono ?_
    rintro _ w6 ⟨v6, rfl, ho6, hb6⟩
    obtain ⟨q6, c6, rfl⟩ := ownsRl_shape ho6
    have RA := recsAt_owned ho6
    have hx7 := ext_alloc (.cells #[.int .i64 ((0 : Nat) : Int)] 3) (ext_of hb6)
    have LT := Lib.hid (show lateIn w4 (w6.alloc (.cells #[.int .i64 ((0 : Nat) : Int)] 3)) D rb vb w6.heap.size 0 0 q6 R from by
      have sz := hb6.size
      have sz5 := S5.out.size
      refine ⟨R5.out.ext hx7, (S5.out.trans (.of_ext D hx7)).more (fun i hi => ?_), heap_alloc_at w6 _, fun hD => ?_, recsAt_of RA (fun k hk => (ext_iff.1 (ext_alloc (.cells #[.int .i64 ((0 : Nat) : Int)] 3) (ext_refl w6))).block k hk) (by simp), fun a ha => ?_⟩
      · rcases hi with h1 | rfl
        · exact .inl h1
        · exact .inr ⟨by omega, by simp⟩
      · have := R5.out.lt _ hD; omega
      · have := ho6.base (g := a.block) (by rw [ha]; rfl)
        refine ⟨fun hD => ?_, by omega, by simp; omega⟩
        have := R5.out.lt _ hD; omega)
    clear ho6 hb6 R5 S5 D5 RA hx7
    rw [show (((0 : Nat) : Int)) = 0 from rfl] at LT
    have hL30 : R.S.L.length ≤ 30 := by rw [HLE.out]; exact OKL.out
    go_wp2_with fail
    generalize w6.alloc (.cells #[.int .i64 0] 3) = w7 at LT ⊢
    generalize w6.heap.size = ib at LT ⊢
    go_loopw [9, 10] (fun nv pv wr => ∃ (k ib lo : Nat) (D : Blk), k ≤ R.S.L.length ∧ nv = .int .i64 lo ∧ lo = lostN R.ok k ∧ pv = .pointer (some ⟨ib, 0, none⟩) ∧ Hid (lateIn w4 wr D rb vb ib k k q6 R)) (fun _ pv wr => R.S.L.length - rdJ pv wr)
    case atStart => exact ⟨0, ib, 0, D, Nat.zero_le _, rfl, rfl, rfl, LT⟩
    case round =>
      clear LT
      obtain ⟨k, ib, lo, D, hk, rfl, hlo, rfl, LT⟩ := hrel
      have HLO := Lib.hid hlo
      have hlo30 : lo ≤ 1000 := by
        have := (late HRU.out k (by rw [← HLE.out]; exact hk)).2.2.2
        have h2 : (follR R k).lost ≤ (follR R k).seq := by obtain ⟨tm, h⟩ := LT.out.rdr; exact h.lo
        have h3 : (follR R k).seq ≤ 1048576 := by obtain ⟨tm, h⟩ := LT.out.rdr; exact h.sq
        have h4 := (late HRU.out k (by rw [← HLE.out]; exact hk)).1
        show lo ≤ 1000
        rw [hlo, ← this]
        change (follR R k).lost ≤ 1000
        rw [h4] at h2
        omega
      clear hlo
      have I1 := cellJ LT.out.box
      have hib := lt_of_heap LT.out.box
      by_cases hlt : k < R.S.L.length
      · have hlt' : (k : Int) < R.S.L.length := by omega
        have hke : k < R.ok.length := by rw [← HLE.out]; exact hlt
        have hx := List.getElem?_eq_getElem hlt
        have he := List.getElem?_eq_getElem hke
        have RD := read_foll R HRU.out (by have := OKL.out; omega) k _ hx w4 wr V D rb vb _ VI.out GV.out (LT.out.st.more (fun i h => .inl (.inl h))) LT.out.rdr
        obtain ⟨g, o, rfl, e0, e1, e2, e3, e4, hg⟩ := recsAt_row LT.out.recs hx
        generalize R.S.L[k] = x at hx RD e0 e1 e2 e3 e4
        clear hx
        obtain ⟨q0, u0, g0, p0, b0⟩ := x
        unfold recV at RD
        dsimp only at RD e0 e1 e2 e3 e4
        go_wp2_with fail
        refine RD.mono ?_
        rintro _ w8 ⟨rfl, D', hr8, hs8⟩
        have L8 := Lib.hid (LT.out.read hr8 hs8)
        clear hr8 hs8 RD e0 e1 e2 e3 e4 I1 hib
        go_wp2_with fail
        have L9 := Lib.hid (L8.out.ext (ext_alloc (.cells #[.func (.func 26) #[] #[.pointer (some ⟨ob, 0, none⟩)]] 65) (ext_refl w8)))
        have GB9 := Lib.hid (heap_alloc_at w8 (.cells #[.func (.func 26) #[] #[.pointer (some ⟨ob, 0, none⟩)]] 65))
        clear L8
        generalize w8.alloc (.cells #[.func (.func 26) #[] #[.pointer (some ⟨ob, 0, none⟩)]] 65) = w9 at L9 GB9 ⊢
        generalize w8.heap.size = gb at GB9 ⊢
        have b9 := ext_iff.1 L9.out.st.ext
        have OB9 := Lib.hid ((b9.block _ hob).trans OB4.out)
        have EO9 := Lib.hid (EO.out.at b9 (Nat.le_refl _))
        clear b9
        obtain ⟨go, oo, rfl, hgo, o0, o1, o2, o3, o4⟩ := EO9.out.row he
        have hob9 := lt_of_heap OB9.out
        have hib9 := lt_of_heap L9.out.box
        have hgb9 := lt_of_heap GB9.out
        have ob9 := cellJ OB9.out
        have ib9 := cellJ L9.out.box
        have gb9 := cellJ GB9.out
        have LN := Lib.hid (show lostN R.ok (k + 1) = lostN R.ok k + (if (decide (R.ok[k].kind ≠ 3) && goneIn (R.ok.drop (k + 1)) R.ok[k].subject) = true then 1 else 0) from by
          show lostN R.ok k + _ = _
          rw [he])
        generalize R.ok[k] = e at he o0 o1 o2 o3 o4 LN
        have hok1 : k + 1 ≤ R.ok.length := hke
        have GA := fun y => gone_any (k + 1) e.subject ob go oo co R.ok (ext w9 y) (Nat.lt_of_lt_of_le hob9 (ext_iff.1 ⟨y, rfl⟩ : Below w9.heap.size w9 (ext w9 y)).size) (cell_below (p := ⟨ob, 0, none⟩) (ext_iff.1 ⟨y, rfl⟩) hob9 ob9) hok1 CPO (by have := OKL.out; omega) (EO9.out.at (ext_iff.1 ⟨y, rfl⟩) (Nat.le_refl _))
        rw [show ((k + 1 : Nat) : Int) = (k : Int) + 1 from rfl] at GA
        have hok1' : (k : Int) < R.ok.length := by omega
        obtain ⟨x0, x1, x2, x3, x4⟩ := e
        dsimp only at o0 o1 o2 o3 o4 GA LN
        have RH := Lib.hid (show ∃ gr u qu cu, qr = some ⟨gr, 0, none⟩ ∧ gr < w4.heap.size ∧ w4.cell? ⟨gr, k + 1, none⟩ = some u ∧ u = .slice qu (sortC (tabN R.ok (k + 1))).length cu ∧ k + 1 < vs.length ∧ (∀ wx, (∃ z, wx = ext w4 z) → cellsIn wx qu (sortC (tabN R.ok (k + 1)))) from by
          have hrl : R.rows.length = R.ok.length + 1 := by rw [HRU.out.rows, List.length_map, List.length_range]
          have hvl := D4.out.held.1
          have hk2 : k + 1 < vs.length := by rw [hvl, hrl]; omega
          have hu := List.getElem?_eq_getElem hk2
          have hr : R.rows[k + 1]? = some (sortC (tabN R.ok (k + 1))) := by rw [HRU.out.rows, List.getElem?_map, List.getElem?_range (by omega)]; rfl
          have hh := D4.out.held.2 _ _ _ hu hr
          obtain ⟨gr, h1, h2, h3⟩ := ownsSl_cell D4.out.rws hu
          obtain ⟨qu, cu, h4, _, _⟩ := hh
          refine ⟨gr, vs[k + 1], qu, cu, h1, h2, h3, h4, hk2, fun wx hx => ?_⟩
          obtain ⟨q', c', h5, h6⟩ := rowHeld_at (D4.out.held.2 _ _ _ hu hr) hx
          rw [h4] at h5
          injection h5 with h5 _ _
          rw [h5]; exact h6)
        have LATE := Lib.hid (late HRU.out (k + 1) hok1)
        have TLN := Lib.hid (Nat.le_trans (tabN_len R.ok (k + 1)) hok1)
        by_cases hk3 : x0 = 3
        · have hk3b : (x0 != 3) = false := by simp [hk3]
          refine wp_region_ext (by kernel_rfl) (by kernel_rfl) ?_
          repeat (go_big_quiet_step (fail))
          refine wpQuiet_nil ?_
          rintro _ ⟨y, rfl⟩
          have hx10 : ∃ z, ext w9 y = ext w9 z := ⟨y, rfl⟩
          have LA := Lib.hid (L9.out.ext hx10)
          have GBA := Lib.hid (((ext_iff.1 hx10).block _ hgb9).trans GB9.out)
          have OBA := Lib.hid (((ext_iff.1 hx10).block _ hob9).trans OB9.out)
          have EOA := Lib.hid (EO9.out.at (ext_iff.1 hx10) (Nat.le_refl _))
          generalize ext w9 y = wa at LA GBA OBA EOA ⊢
          clear hx10 L9 GB9 OB9 EO9 hob9 hib9 hgb9 ob9 ib9 gb9 o0 o1 o2 o3 o4 GA
          have HL2 := Lib.hid (show lo = lostN R.ok (k + 1) from by rw [LN.out, ← HLO.out, if_neg (by simp [hk3])]; rfl)
          clear LN HLO
          obtain ⟨gr, u, qu, cu, rfl, hgr, hcu, rfl, hk2, hci⟩ := RH.out
          have bA := ext_iff.1 LA.out.st.ext
          have gr9 := cell_below (p := ⟨gr, k + 1, none⟩) bA hgr hcu
          have hgr9 : gr < wa.heap.size := Nat.lt_of_lt_of_le hgr bA.size
          have CI := hci wa LA.out.st.ext
          have ibA := cellJ LA.out.box
          have hibA := lt_of_heap LA.out.box
          have hk2' : (k : Int) + 1 < vs.length := by omega
          clear bA hgr hcu hci
          have CL := clone_any qu cu (sortC (tabN R.ok (k + 1))) wa CI (by rw [sortC_len]; have := TLN.out; have := OKL.out; omega)
          go_wp2_with fail
          refine CL.mono ?_
          rintro _ wb ⟨vb1, rfl, hob1, hbb1⟩
          have LB := Lib.hid (LA.out.ext (ext_of hbb1))
          have GBB := Lib.hid ((hbb1.block _ (lt_of_heap GBA.out)).trans GBA.out)
          have OBB := Lib.hid ((hbb1.block _ (lt_of_heap OBA.out)).trans OBA.out)
          have EOB := Lib.hid (EOA.out.at hbb1 (Nat.le_refl _))
          have OWB := Lib.hid hob1
          have NB := Lib.hid (show ∀ b, vb1.ownBlock = some b → b ≠ gb ∧ b ≠ ib ∧ b ≠ ob ∧ b ≠ go from fun b hb => by
            have h1 := (hob1.base hb).1
            have h2 := lt_of_heap GBA.out
            have h3 := lt_of_heap LA.out.box
            have h4 := lt_of_heap OBA.out
            obtain ⟨g', _, hq', hg', _⟩ := EOA.out.row he
            simp only [Option.some.injEq, Addr.mk.injEq] at hq'
            have h5 := hq'.1
            omega)
          have BB1 := Lib.hid hbb1
          clear hob1 hbb1 CL gr9 hgr9 CI ibA hibA
          have DG := delG_any (fun c => goneIn (R.ok.drop (k + 1)) c.subject) (.pointer (some ⟨gb, 0, none⟩)) (.pointer (some ⟨ib, 0, none⟩)) wa.heap.size vb1 (sortC (tabN R.ok (k + 1))) wb OWB.out (by rw [sortC_len]; have := TLN.out; have := OKL.out; omega) (fun c W hW => by
            have sz := hW.size
            have kp : ∀ b, b < wb.heap.size → some b ≠ vb1.ownBlock → W.heap[b]? = wb.heap[b]? := fun b h1 h2 => hW.block b h1 h2
            have kb : ∀ b, (∀ b', vb1.ownBlock = some b' → b' ≠ b) → b < wb.heap.size → W.heap[b]? = wb.heap[b]? := fun b h1 h2 => kp b h2 (fun e => h1 b e.symm rfl)
            have g1 := kb gb (fun b' hb' => (NB.out b' hb').1) (lt_of_heap GBB.out)
            have g2 := kb ib (fun b' hb' => (NB.out b' hb').2.1) (lt_of_heap LB.out.box)
            have g3 := kb ob (fun b' hb' => (NB.out b' hb').2.2.1) (lt_of_heap OBB.out)
            obtain ⟨g', _, hq', hg', _⟩ := EOB.out.row he
            simp only [Option.some.injEq, Addr.mk.injEq] at hq'
            have g4 := kb go (fun b' hb' => (NB.out b' hb').2.2.2) (by rw [hq'.1]; exact hg')
            exact late2_any c k gb ib ob go oo co R.ok W (Nat.lt_of_lt_of_le (lt_of_heap GBB.out) sz) (Nat.lt_of_lt_of_le (lt_of_heap LB.out.box) sz) (cellJ (g1.trans GBB.out)) (cellJ (g2.trans LB.out.box)) (Nat.lt_of_lt_of_le (lt_of_heap OBB.out) sz) (cellJ (g3.trans OBB.out)) hok1 CPO (by have := OKL.out; omega) (evsAt_blk EOB.out g4 sz))
          go_wp2_with fail
          refine DG.mono ?_
          rintro _ wc ⟨vc1, rfl, hoc1, hgc1⟩
          have bc : Below wa.heap.size wa wc := BB1.out.trans ⟨hgc1.os, hgc1.tape, hgc1.output, hgc1.size, fun i hi => by
            refine hgc1.block i (Nat.lt_of_lt_of_le hi BB1.out.size) (fun e => ?_)
            have := (OWB.out.base e.symm).1
            omega⟩
          have LC := Lib.hid (LA.out.ext (ext_of bc))
          have hh : sortC (follR R (k + 1)).T = (sortC (tabN R.ok (k + 1))).filter fun c => !goneIn (R.ok.drop (k + 1)) c.subject := by
            have h1 : (follR R (k + 1)).T = (tabN R.ok (k + 1)).filter fun c => !goneIn (R.ok.drop (k + 1)) c.subject := LATE.out.2.2.1
            rw [h1, sortC_filter (tabN_once _ _)]
          have hwll : ((sortC (tabN R.ok (k + 1))).filter fun c => !goneIn (R.ok.drop (k + 1)) c.subject).length ≤ 1048576 := by
            have h1 := List.length_filter_le (fun c : Cell => !goneIn (R.ok.drop (k + 1)) c.subject) (sortC (tabN R.ok (k + 1)))
            rw [sortC_len] at h1
            have h2 := TLN.out
            have h3 := OKL.out
            omega
          generalize ((sortC (tabN R.ok (k + 1))).filter fun c => !goneIn (R.ok.drop (k + 1)) c.subject) = wl at hoc1 hh hwll
          obtain ⟨qc, cc, rfl⟩ := rows_shape hoc1
          have OC := Lib.hid hoc1
          have HH := Lib.hid hh
          clear hoc1 hgc1 bc DG BB1 OWB NB LB GBB OBB EOB LA GBA OBA EOA hh
          go_wp2_with fail
          refine (rcells_any wc D' rb vb _ _ LC.out.rdr (by omega)).mono ?_
          rintro _ wd ⟨vd, rfl, hod, _, hbd⟩
          have LD := Lib.hid (LC.out.ext (ext_of hbd))
          have OD := Lib.hid hod
          have OC2 := Lib.hid (OC.out.kept (grown_below hbd none) (by simp))
          clear hod hbd OC LC
          obtain ⟨qd, cd, rfl⟩ := rows_shape OD.out
          have EQ := eqC_any qd qc cd cc _ _ wd (by rw [HH.out]; omega) (by omega) (cellsIn_of OD.out).1 (cellsIn_of OC2.out).1
          rw [(allEq_cells _ _).2 HH.out] at EQ
          go_wp2_with fail
          refine EQ.mono ?_
          rintro _ we ⟨rfl, hxe⟩
          have LE := Lib.hid (LD.out.ext hxe)
          clear EQ hxe LD OD OC2
          have RL := rlost_any we D' rb vb _ _ LE.out.rdr
          rw [show (follR R (k + 1)).lost = lo from LATE.out.2.2.2.trans HL2.out.symm] at RL
          go_wp2_with fail
          refine RL.mono ?_
          rintro _ wf ⟨rfl, rfl⟩
          clear RL
          have ibE := cellJ LE.out.box
          have hibE := lt_of_heap LE.out.box
          go_wp2_with fail
          go_roundw
          case rel =>
            refine ⟨k + 1, _, lo, D', hlt, rfl, HL2.out, rfl, Lib.hid ?_⟩
            exact LE.out.new (k + 1)
          case measure =>
            have m1 := rdJ_at (LE.out.new (k + 1)).box
            have m2 := rdJ_at LT.out.box
            rw [show ((k : Int) + 1) = ((k + 1 : Nat) : Int) from rfl, m1, m2]
            omega
        · have hk3b : (x0 != 3) = true := by simp [hk3]
          generalize hbb : goneIn (R.ok.drop (k + 1)) x1 = bb at GA LN
          clear hbb
          cases bb with
          | false =>
            refine wp_region_ext (by kernel_rfl) (by kernel_rfl) ?_
            repeat (go_big_quiet_step ((go_at_call 26; refine (GA _).mono ?_; rintro _ _ ⟨rfl, hx⟩; exact ⟨rfl, ext_trans ⟨_, rfl⟩ hx⟩)))
            refine wpQuiet_nil ?_
            rintro _ ⟨y, rfl⟩
            have hx10 : ∃ z, ext w9 y = ext w9 z := ⟨y, rfl⟩
            have LA := Lib.hid (L9.out.ext hx10)
            have GBA := Lib.hid (((ext_iff.1 hx10).block _ hgb9).trans GB9.out)
            have OBA := Lib.hid (((ext_iff.1 hx10).block _ hob9).trans OB9.out)
            have EOA := Lib.hid (EO9.out.at (ext_iff.1 hx10) (Nat.le_refl _))
            generalize ext w9 y = wa at LA GBA OBA EOA ⊢
            clear hx10 L9 GB9 OB9 EO9 hob9 hib9 hgb9 ob9 ib9 gb9 o0 o1 o2 o3 o4 GA
            have HL2 := Lib.hid (show lo = lostN R.ok (k + 1) from by rw [LN.out, ← HLO.out, if_neg (by simp)]; rfl)
            clear LN HLO
            obtain ⟨gr, u, qu, cu, rfl, hgr, hcu, rfl, hk2, hci⟩ := RH.out
            have bA := ext_iff.1 LA.out.st.ext
            have gr9 := cell_below (p := ⟨gr, k + 1, none⟩) bA hgr hcu
            have hgr9 : gr < wa.heap.size := Nat.lt_of_lt_of_le hgr bA.size
            have CI := hci wa LA.out.st.ext
            have ibA := cellJ LA.out.box
            have hibA := lt_of_heap LA.out.box
            have hk2' : (k : Int) + 1 < vs.length := by omega
            clear bA hgr hcu hci
            have CL := clone_any qu cu (sortC (tabN R.ok (k + 1))) wa CI (by rw [sortC_len]; have := TLN.out; have := OKL.out; omega)
            go_wp2_with fail
            refine CL.mono ?_
            rintro _ wb ⟨vb1, rfl, hob1, hbb1⟩
            have LB := Lib.hid (LA.out.ext (ext_of hbb1))
            have GBB := Lib.hid ((hbb1.block _ (lt_of_heap GBA.out)).trans GBA.out)
            have OBB := Lib.hid ((hbb1.block _ (lt_of_heap OBA.out)).trans OBA.out)
            have EOB := Lib.hid (EOA.out.at hbb1 (Nat.le_refl _))
            have OWB := Lib.hid hob1
            have NB := Lib.hid (show ∀ b, vb1.ownBlock = some b → b ≠ gb ∧ b ≠ ib ∧ b ≠ ob ∧ b ≠ go from fun b hb => by
              have h1 := (hob1.base hb).1
              have h2 := lt_of_heap GBA.out
              have h3 := lt_of_heap LA.out.box
              have h4 := lt_of_heap OBA.out
              obtain ⟨g', _, hq', hg', _⟩ := EOA.out.row he
              simp only [Option.some.injEq, Addr.mk.injEq] at hq'
              have h5 := hq'.1
              omega)
            have BB1 := Lib.hid hbb1
            clear hob1 hbb1 CL gr9 hgr9 CI ibA hibA
            have DG := delG_any (fun c => goneIn (R.ok.drop (k + 1)) c.subject) (.pointer (some ⟨gb, 0, none⟩)) (.pointer (some ⟨ib, 0, none⟩)) wa.heap.size vb1 (sortC (tabN R.ok (k + 1))) wb OWB.out (by rw [sortC_len]; have := TLN.out; have := OKL.out; omega) (fun c W hW => by
              have sz := hW.size
              have kp : ∀ b, b < wb.heap.size → some b ≠ vb1.ownBlock → W.heap[b]? = wb.heap[b]? := fun b h1 h2 => hW.block b h1 h2
              have kb : ∀ b, (∀ b', vb1.ownBlock = some b' → b' ≠ b) → b < wb.heap.size → W.heap[b]? = wb.heap[b]? := fun b h1 h2 => kp b h2 (fun e => h1 b e.symm rfl)
              have g1 := kb gb (fun b' hb' => (NB.out b' hb').1) (lt_of_heap GBB.out)
              have g2 := kb ib (fun b' hb' => (NB.out b' hb').2.1) (lt_of_heap LB.out.box)
              have g3 := kb ob (fun b' hb' => (NB.out b' hb').2.2.1) (lt_of_heap OBB.out)
              obtain ⟨g', _, hq', hg', _⟩ := EOB.out.row he
              simp only [Option.some.injEq, Addr.mk.injEq] at hq'
              have g4 := kb go (fun b' hb' => (NB.out b' hb').2.2.2) (by rw [hq'.1]; exact hg')
              exact late2_any c k gb ib ob go oo co R.ok W (Nat.lt_of_lt_of_le (lt_of_heap GBB.out) sz) (Nat.lt_of_lt_of_le (lt_of_heap LB.out.box) sz) (cellJ (g1.trans GBB.out)) (cellJ (g2.trans LB.out.box)) (Nat.lt_of_lt_of_le (lt_of_heap OBB.out) sz) (cellJ (g3.trans OBB.out)) hok1 CPO (by have := OKL.out; omega) (evsAt_blk EOB.out g4 sz))
            go_wp2_with fail
            refine DG.mono ?_
            rintro _ wc ⟨vc1, rfl, hoc1, hgc1⟩
            have bc : Below wa.heap.size wa wc := BB1.out.trans ⟨hgc1.os, hgc1.tape, hgc1.output, hgc1.size, fun i hi => by
              refine hgc1.block i (Nat.lt_of_lt_of_le hi BB1.out.size) (fun e => ?_)
              have := (OWB.out.base e.symm).1
              omega⟩
            have LC := Lib.hid (LA.out.ext (ext_of bc))
            have hh : sortC (follR R (k + 1)).T = (sortC (tabN R.ok (k + 1))).filter fun c => !goneIn (R.ok.drop (k + 1)) c.subject := by
              have h1 : (follR R (k + 1)).T = (tabN R.ok (k + 1)).filter fun c => !goneIn (R.ok.drop (k + 1)) c.subject := LATE.out.2.2.1
              rw [h1, sortC_filter (tabN_once _ _)]
            have hwll : ((sortC (tabN R.ok (k + 1))).filter fun c => !goneIn (R.ok.drop (k + 1)) c.subject).length ≤ 1048576 := by
              have h1 := List.length_filter_le (fun c : Cell => !goneIn (R.ok.drop (k + 1)) c.subject) (sortC (tabN R.ok (k + 1)))
              rw [sortC_len] at h1
              have h2 := TLN.out
              have h3 := OKL.out
              omega
            generalize ((sortC (tabN R.ok (k + 1))).filter fun c => !goneIn (R.ok.drop (k + 1)) c.subject) = wl at hoc1 hh hwll
            obtain ⟨qc, cc, rfl⟩ := rows_shape hoc1
            have OC := Lib.hid hoc1
            have HH := Lib.hid hh
            clear hoc1 hgc1 bc DG BB1 OWB NB LB GBB OBB EOB LA GBA OBA EOA hh
            go_wp2_with fail
            refine (rcells_any wc D' rb vb _ _ LC.out.rdr (by omega)).mono ?_
            rintro _ wd ⟨vd, rfl, hod, _, hbd⟩
            have LD := Lib.hid (LC.out.ext (ext_of hbd))
            have OD := Lib.hid hod
            have OC2 := Lib.hid (OC.out.kept (grown_below hbd none) (by simp))
            clear hod hbd OC LC
            obtain ⟨qd, cd, rfl⟩ := rows_shape OD.out
            have EQ := eqC_any qd qc cd cc _ _ wd (by rw [HH.out]; omega) (by omega) (cellsIn_of OD.out).1 (cellsIn_of OC2.out).1
            rw [(allEq_cells _ _).2 HH.out] at EQ
            go_wp2_with fail
            refine EQ.mono ?_
            rintro _ we ⟨rfl, hxe⟩
            have LE := Lib.hid (LD.out.ext hxe)
            clear EQ hxe LD OD OC2
            have RL := rlost_any we D' rb vb _ _ LE.out.rdr
            rw [show (follR R (k + 1)).lost = lo from LATE.out.2.2.2.trans HL2.out.symm] at RL
            go_wp2_with fail
            refine RL.mono ?_
            rintro _ wf ⟨rfl, rfl⟩
            clear RL
            have ibE := cellJ LE.out.box
            have hibE := lt_of_heap LE.out.box
            go_wp2_with fail
            go_roundw
            case rel =>
              refine ⟨k + 1, _, lo, D', hlt, rfl, HL2.out, rfl, Lib.hid ?_⟩
              exact LE.out.new (k + 1)
            case measure =>
              have m1 := rdJ_at (LE.out.new (k + 1)).box
              have m2 := rdJ_at LT.out.box
              rw [show ((k : Int) + 1) = ((k + 1 : Nat) : Int) from rfl, m1, m2]
              omega
          | true =>
            refine wp_region_ext (by kernel_rfl) (by kernel_rfl) ?_
            repeat (go_big_quiet_step ((go_at_call 26; refine (GA _).mono ?_; rintro _ _ ⟨rfl, hx⟩; exact ⟨rfl, ext_trans ⟨_, rfl⟩ hx⟩)))
            refine wpQuiet_nil ?_
            rintro _ ⟨y, rfl⟩
            have hx10 : ∃ z, ext w9 y = ext w9 z := ⟨y, rfl⟩
            have LA := Lib.hid (L9.out.ext hx10)
            have GBA := Lib.hid (((ext_iff.1 hx10).block _ hgb9).trans GB9.out)
            have OBA := Lib.hid (((ext_iff.1 hx10).block _ hob9).trans OB9.out)
            have EOA := Lib.hid (EO9.out.at (ext_iff.1 hx10) (Nat.le_refl _))
            generalize ext w9 y = wa at LA GBA OBA EOA ⊢
            clear hx10 L9 GB9 OB9 EO9 hob9 hib9 hgb9 ob9 ib9 gb9 o0 o1 o2 o3 o4 GA
            have HL2 := Lib.hid (show lo + 1 = lostN R.ok (k + 1) from by rw [LN.out, ← HLO.out, if_pos (by simp [hk3])])
            clear LN HLO
            obtain ⟨gr, u, qu, cu, rfl, hgr, hcu, rfl, hk2, hci⟩ := RH.out
            have bA := ext_iff.1 LA.out.st.ext
            have gr9 := cell_below (p := ⟨gr, k + 1, none⟩) bA hgr hcu
            have hgr9 : gr < wa.heap.size := Nat.lt_of_lt_of_le hgr bA.size
            have CI := hci wa LA.out.st.ext
            have ibA := cellJ LA.out.box
            have hibA := lt_of_heap LA.out.box
            have hk2' : (k : Int) + 1 < vs.length := by omega
            clear bA hgr hcu hci
            have CL := clone_any qu cu (sortC (tabN R.ok (k + 1))) wa CI (by rw [sortC_len]; have := TLN.out; have := OKL.out; omega)
            go_wp2_with fail
            refine CL.mono ?_
            rintro _ wb ⟨vb1, rfl, hob1, hbb1⟩
            have LB := Lib.hid (LA.out.ext (ext_of hbb1))
            have GBB := Lib.hid ((hbb1.block _ (lt_of_heap GBA.out)).trans GBA.out)
            have OBB := Lib.hid ((hbb1.block _ (lt_of_heap OBA.out)).trans OBA.out)
            have EOB := Lib.hid (EOA.out.at hbb1 (Nat.le_refl _))
            have OWB := Lib.hid hob1
            have NB := Lib.hid (show ∀ b, vb1.ownBlock = some b → b ≠ gb ∧ b ≠ ib ∧ b ≠ ob ∧ b ≠ go from fun b hb => by
              have h1 := (hob1.base hb).1
              have h2 := lt_of_heap GBA.out
              have h3 := lt_of_heap LA.out.box
              have h4 := lt_of_heap OBA.out
              obtain ⟨g', _, hq', hg', _⟩ := EOA.out.row he
              simp only [Option.some.injEq, Addr.mk.injEq] at hq'
              have h5 := hq'.1
              omega)
            have BB1 := Lib.hid hbb1
            clear hob1 hbb1 CL gr9 hgr9 CI ibA hibA
            have DG := delG_any (fun c => goneIn (R.ok.drop (k + 1)) c.subject) (.pointer (some ⟨gb, 0, none⟩)) (.pointer (some ⟨ib, 0, none⟩)) wa.heap.size vb1 (sortC (tabN R.ok (k + 1))) wb OWB.out (by rw [sortC_len]; have := TLN.out; have := OKL.out; omega) (fun c W hW => by
              have sz := hW.size
              have kp : ∀ b, b < wb.heap.size → some b ≠ vb1.ownBlock → W.heap[b]? = wb.heap[b]? := fun b h1 h2 => hW.block b h1 h2
              have kb : ∀ b, (∀ b', vb1.ownBlock = some b' → b' ≠ b) → b < wb.heap.size → W.heap[b]? = wb.heap[b]? := fun b h1 h2 => kp b h2 (fun e => h1 b e.symm rfl)
              have g1 := kb gb (fun b' hb' => (NB.out b' hb').1) (lt_of_heap GBB.out)
              have g2 := kb ib (fun b' hb' => (NB.out b' hb').2.1) (lt_of_heap LB.out.box)
              have g3 := kb ob (fun b' hb' => (NB.out b' hb').2.2.1) (lt_of_heap OBB.out)
              obtain ⟨g', _, hq', hg', _⟩ := EOB.out.row he
              simp only [Option.some.injEq, Addr.mk.injEq] at hq'
              have g4 := kb go (fun b' hb' => (NB.out b' hb').2.2.2) (by rw [hq'.1]; exact hg')
              exact late2_any c k gb ib ob go oo co R.ok W (Nat.lt_of_lt_of_le (lt_of_heap GBB.out) sz) (Nat.lt_of_lt_of_le (lt_of_heap LB.out.box) sz) (cellJ (g1.trans GBB.out)) (cellJ (g2.trans LB.out.box)) (Nat.lt_of_lt_of_le (lt_of_heap OBB.out) sz) (cellJ (g3.trans OBB.out)) hok1 CPO (by have := OKL.out; omega) (evsAt_blk EOB.out g4 sz))
            go_wp2_with fail
            refine DG.mono ?_
            rintro _ wc ⟨vc1, rfl, hoc1, hgc1⟩
            have bc : Below wa.heap.size wa wc := BB1.out.trans ⟨hgc1.os, hgc1.tape, hgc1.output, hgc1.size, fun i hi => by
              refine hgc1.block i (Nat.lt_of_lt_of_le hi BB1.out.size) (fun e => ?_)
              have := (OWB.out.base e.symm).1
              omega⟩
            have LC := Lib.hid (LA.out.ext (ext_of bc))
            have hh : sortC (follR R (k + 1)).T = (sortC (tabN R.ok (k + 1))).filter fun c => !goneIn (R.ok.drop (k + 1)) c.subject := by
              have h1 : (follR R (k + 1)).T = (tabN R.ok (k + 1)).filter fun c => !goneIn (R.ok.drop (k + 1)) c.subject := LATE.out.2.2.1
              rw [h1, sortC_filter (tabN_once _ _)]
            have hwll : ((sortC (tabN R.ok (k + 1))).filter fun c => !goneIn (R.ok.drop (k + 1)) c.subject).length ≤ 1048576 := by
              have h1 := List.length_filter_le (fun c : Cell => !goneIn (R.ok.drop (k + 1)) c.subject) (sortC (tabN R.ok (k + 1)))
              rw [sortC_len] at h1
              have h2 := TLN.out
              have h3 := OKL.out
              omega
            generalize ((sortC (tabN R.ok (k + 1))).filter fun c => !goneIn (R.ok.drop (k + 1)) c.subject) = wl at hoc1 hh hwll
            obtain ⟨qc, cc, rfl⟩ := rows_shape hoc1
            have OC := Lib.hid hoc1
            have HH := Lib.hid hh
            clear hoc1 hgc1 bc DG BB1 OWB NB LB GBB OBB EOB LA GBA OBA EOA hh
            go_wp2_with fail
            refine (rcells_any wc D' rb vb _ _ LC.out.rdr (by omega)).mono ?_
            rintro _ wd ⟨vd, rfl, hod, _, hbd⟩
            have LD := Lib.hid (LC.out.ext (ext_of hbd))
            have OD := Lib.hid hod
            have OC2 := Lib.hid (OC.out.kept (grown_below hbd none) (by simp))
            clear hod hbd OC LC
            obtain ⟨qd, cd, rfl⟩ := rows_shape OD.out
            have EQ := eqC_any qd qc cd cc _ _ wd (by rw [HH.out]; omega) (by omega) (cellsIn_of OD.out).1 (cellsIn_of OC2.out).1
            rw [(allEq_cells _ _).2 HH.out] at EQ
            go_wp2_with fail
            refine EQ.mono ?_
            rintro _ we ⟨rfl, hxe⟩
            have LE := Lib.hid (LD.out.ext hxe)
            clear EQ hxe LD OD OC2
            have RL := rlost_any we D' rb vb _ _ LE.out.rdr
            rw [show (follR R (k + 1)).lost = (lo + 1) from LATE.out.2.2.2.trans HL2.out.symm] at RL
            rw [show ((lo + 1 : Nat) : Int) = (lo : Int) + 1 from rfl] at RL
            go_wp2_with fail
            refine RL.mono ?_
            rintro _ wf ⟨rfl, rfl⟩
            clear RL
            have ibE := cellJ LE.out.box
            have hibE := lt_of_heap LE.out.box
            go_wp2_with fail
            go_roundw
            case rel =>
              refine ⟨k + 1, _, (lo + 1), D', hlt, rfl, HL2.out, rfl, Lib.hid ?_⟩
              exact LE.out.new (k + 1)
            case measure =>
              have m1 := rdJ_at (LE.out.new (k + 1)).box
              have m2 := rdJ_at LT.out.box
              rw [show ((k : Int) + 1) = ((k + 1 : Nat) : Int) from rfl, m1, m2]
              omega
      · obtain rfl : k = R.S.L.length := by omega
        have I1 := I1
        have XW := Lib.hid LT.out.st.ext
        have SX := Lib.hid (D4.out.src.ext XW.out)
        have TT : (follR R R.S.L.length).T = R.S.T := by
          have h1 := (late HRU.out R.S.L.length (by rw [HLE.out]; exact Nat.le_refl _)).2.2.1
          have h2 : (follR R R.S.L.length).T = _ := h1
          rw [h2, HLE.out, List.drop_length, HRU.out.tab]
          exact List.filter_eq_self.2 (fun c _ => rfl)
        have TLL : R.S.T.length ≤ 1000 := by rw [HRU.out.tab]; have := tabN_len R.ok R.ok.length; have := OKL.out; omega
        have RC := rcells_any wr D rb vb _ _ LT.out.rdr (by omega)
        rw [TT] at RC
        clear TT
        go_wp2_with fail
        refine RC.mono ?_
        rintro _ wd ⟨vd, rfl, hod, _, hbd⟩
        have OD := Lib.hid hod
        have XD := Lib.hid (ext_trans XW.out (ext_of hbd))
        have SD := Lib.hid (SX.out.ext (ext_of hbd))
        clear RC hod hbd SX
        go_wp2_with fail
        refine (scells_any wd V F sb vb _ secS _ SD.out (by omega)).mono ?_
        rintro _ we ⟨ve, rfl, hoe, _, hbe⟩
        have OE := Lib.hid hoe
        have OD2 := Lib.hid (OD.out.kept (grown_below hbe none) (by simp))
        have XE := Lib.hid (ext_trans XD.out (ext_of hbe))
        clear hoe hbe OD XD SD
        obtain ⟨qd, cd, rfl⟩ := rows_shape OD2.out
        obtain ⟨qe, ce, rfl⟩ := rows_shape OE.out
        have EQ := eqC_any qd qe cd ce _ _ we (by rw [sortC_len]; omega) (by rw [sortC_len]; omega) (cellsIn_of OD2.out).1 (cellsIn_of OE.out).1
        rw [(allEq_cells _ _).2 rfl] at EQ
        go_wp2_with fail
        refine EQ.mono ?_
        rintro _ wf ⟨rfl, hxf⟩
        have XF := Lib.hid (ext_trans XE.out hxf)
        clear EQ hxf
        go_wp2_with fail
        go_ret
        exact ⟨rfl, ext_trans X4.out XF.out⟩
theorem readerLate_law (q : Option Addr) (cp : Nat) (l : List Ev) (w : World) (hG : Glob w none0) (hl : l.length ≤ 9223372036854775807) (_ : l.length ≤ cp) (h1 : evsAt w q l) (_ : q = none → l.length = 0 ∧ cp = 0) :
    Calls Tryz.prog 5 #[.slice q l.length cp] w (Res true w) := readerLate_any q cp l w hl h1 hG
end Go.Proofs.YtafdigdopeahdaaGreatDoor
namespace Go.Proofs.YtafdigdopeahdaaGreatDoor
open Go.RowKit

theorem own : ownKnob Tryz.prog.godebug = none := by kernel_rfl
theorem gRounds : Tryz.prog.globalNamed "oubliette/sum.rounds" = some 2 := by kernel_rfl
theorem tRounds : (Tryz.prog.globals[2]?).map (·.type) = some 187 := by kernel_rfl
def roundsZ : List Int := roundsL.map fun n : Nat => (n : Int)
theorem rounds_data : (Rows.laid_oubliette_sum_rounds : DataW Unit) = Lib.tabData .u32 roundsZ := rfl
theorem rounds_at : (List.range 64).all (fun i => roundsZ.getD i 0 == val (K256 i)) = true := by decide +kernel
/-- The table stands first on the list. -/
theorem Rounds_of_laid {rest : List (String × DataW Unit)} {W : World} (h : laidMet Tryz.prog (("oubliette/sum.rounds", Rows.laid_oubliette_sum_rounds) :: rest) W) : Rounds W := by
  rw [rounds_data] at h
  have hT := Lib.tabIs_of_head gRounds tRounds Tryz.underlying187 Tryz.underlying151 (by kernel_rfl) (by kernel_rfl) h
  have hc : ∀ i, i < 64 → W.cell? ⟨2, i, none⟩ = some (.int .u32 (val (K256 i))) := fun i hi => by
    have h1 := hT.cell gRounds i (by simpa [roundsZ, roundsL] using hi)
    have h2 := List.all_eq_true.1 rounds_at i (List.mem_range.2 hi)
    rw [h1, eq_of_beq h2]
  exact ⟨block_lt_of_cell (hc 0 (by omega)), hc⟩

theorem rtypeT : (Tryz.prog.cutTypes.find? (·.1 == "internal/reflectlite.rtype")).map (·.2) = some 156 := by kernel_rfl
theorem gErr : Tryz.prog.globalNamed "errors.errorType" = some 0 := by kernel_rfl
theorem errRow : ((List.range 248).filter fun t => Tryz.prog.rowNamed t [101, 114, 114, 111, 114]) = [27] := by kernel_rfl
theorem typesSize : Tryz.prog.types.size = 248 := by kernel_rfl
/-- The handle of the type error. -/
theorem ErrT_of_met {W : World} (h : handlesMet Tryz.prog [("errors.errorType", Rows.laid_errors_errorType)] W) : ErrT W := by
  obtain ⟨name, u, ty, e1, e2, e3, e4, e5⟩ := h _ (List.mem_singleton.2 rfl)
  have en : name = [101, 114, 114, 111, 114] := (Option.some.inj e1).symm
  subst en
  obtain rfl := Option.some.inj (rtypeT.symm.trans e2)
  have hm : ty ∈ (List.range 248).filter fun t => Tryz.prog.rowNamed t [101, 114, 114, 111, 114] := List.mem_filter.2 ⟨List.mem_range.2 (by rw [← typesSize]; exact e3), e4⟩
  rw [errRow] at hm
  obtain rfl := List.mem_singleton.1 hm
  have hh : typeHandle Tryz.prog 27 = rt 27 := by kernel_rfl
  rw [hh] at e5
  have := World.var?_cell gErr e5 0
  simpa [ErrT] using this
theorem ErrT_of_laid {W : World} (h : laidMetH Tryz.prog [("errors.errorType", Rows.laid_errors_errorType)] W) : ErrT W := by
  have h' : laidMet Tryz.prog [] W ∧ handlesMet Tryz.prog [("errors.errorType", Rows.laid_errors_errorType)] W := h
  exact ErrT_of_met h'.2
theorem both_of_laidH {W : World} (h : laidMetH Tryz.prog [("oubliette/sum.rounds", Rows.laid_oubliette_sum_rounds), ("errors.errorType", Rows.laid_errors_errorType)] W) :
    laidMet Tryz.prog [("oubliette/sum.rounds", Rows.laid_oubliette_sum_rounds)] W ∧ handlesMet Tryz.prog [("errors.errorType", Rows.laid_errors_errorType)] W := h
theorem Rounds_of_laidH {W : World} (h : laidMetH Tryz.prog [("oubliette/sum.rounds", Rows.laid_oubliette_sum_rounds), ("errors.errorType", Rows.laid_errors_errorType)] W) : Rounds W := Rounds_of_laid (both_of_laidH h).1
theorem ErrT_of_laidH {W : World} (h : laidMetH Tryz.prog [("oubliette/sum.rounds", Rows.laid_oubliette_sum_rounds), ("errors.errorType", Rows.laid_errors_errorType)] W) : ErrT W := ErrT_of_met (both_of_laidH h).2
end Go.Proofs.YtafdigdopeahdaaGreatDoor
namespace Go.Proofs.YtafdigdopeahdaaGreatDoor
open Go.ChangeShapes Go.WideShapes Go.ChangeAt Go.RowKit

theorem laidOut : laidOutB Tryz.prog = true := by kernel_rfl
theorem byte_int {n : Int} (h : (Lit.int .u8 n).wf = true) : ∃ b : UInt8, n = (b.toNat : Int) := by
  have h2 : 0 ≤ n ∧ n ≤ 255 := by
    simp only [Lit.wf, Bool.and_eq_true, decide_eq_true_eq] at h
    exact ⟨h.1, h.2⟩
  refine ⟨UInt8.ofNat n.toNat, ?_⟩
  rw [UInt8.toNat_ofNat']; omega
/-- A slice of texts is a list of them. -/
theorem texts_of_Trod {H : Type} {enc : TypeId × Value → H} {W : World} {q : Option Addr} {l c : Nat} {d : DataW H} {p : List MemPlace} (h : DataW.Trod enc Tryz.prog W 0 (fun _ => true) true 120 (.slice q l c) d p) :
    ∃ ps : List ByteArray, l = ps.length ∧ textsAt W q ps := by
  obtain ⟨fuel, hf⟩ := h
  rcases open_strings Tryz.underlying120 Tryz.underlying9 (by kernel_rfl) hf with ⟨hcs, hx⟩ | ⟨a, len', cap', ss, hcs, _, hl, hm, hz, hx, hcell, hwz⟩
  · simp [Value.cells] at hcs
    obtain ⟨rfl, rfl, rfl⟩ := hcs
    exact ⟨[], rfl, fun j s hj => by simp at hj⟩
  · simp [Value.cells] at hcs
    obtain ⟨rfl, rfl, rfl⟩ := hcs
    simp only [if_true] at hz
    refine ⟨ss.take l, by rw [List.length_take]; omega, ?_⟩
    intro j s hj
    have hjl : j < l := by
      have := (List.getElem?_eq_some_iff.1 hj).1
      rw [List.length_take] at this; omega
    rw [List.getElem?_take_of_lt hjl] at hj
    obtain ⟨b, off, spot⟩ := a
    have hspot : spot = none := by simpa [Addr.add] using World.cell?_spot (hcell 0 (by omega))
    subst hspot
    have hc := hcell j (by omega)
    rw [add_flat', List.getD_eq_getElem?_getD, hj] at hc
    exact ⟨b, off, rfl, block_lt_of_cell hc, hc⟩
end Go.Proofs.YtafdigdopeahdaaGreatDoor
