/- sort.median_func and sort.choosePivot_func at rows (the walks): which place, is left open. · sort.partialInsertionSort_func at fewer than fifty rows (the walk): it says whether they are in order. -/
import Derived.Test.YtcbcknfhblamfaaGreatDoorProg
import Derived.Test.YtcbcknfhblamfaaGreatDoorG3
import Derived.Test.YtcbcknfhblamfaaGreatDoorG1
import Derived.Shelf.GgSortFunc.InsertionK
import Derived.Sort.LotA
namespace Go.Proofs.YtcbcknfhblamfaaGreatDoor
open Go.RowKit Go.Shelf Go.Sort

variable {P : Program} {ρ : Ren} {lt : Cell → Cell → Bool} {g sf : Nat} {lb sb : Array Value} {w0 w w' : World} {gb N cb : Nat} {s : Int} {d : Array Cell}
/-- A function's own block of the two closures. -/
def boxIn (ρ : Ren) (g sf : Nat) (lb sb : Array Value) (db : Nat) (w : World) : Prop := w.heap[db]? = some (.cells #[.func (.func g) #[] lb, .func (.func sf) #[] sb] (ρ.t 44) (0, 0))
theorem boxIn.cells {db : Nat} (h : boxIn ρ g sf lb sb db w) : w.cell? ⟨db, 0, none⟩ = some (.func (.func g) #[] lb) ∧ w.cell? ⟨db, 1, none⟩ = some (.func (.func sf) #[] sb) ∧ db < w.heap.size :=
  ⟨by rw [cell_in, h]; rfl, by rw [cell_in, h]; rfl, lt_of_heap h⟩
theorem boxIn.kept {db b : Nat} (h : boxIn ρ g sf lb sb db w) (hg : w.grownBy w' (some b)) (hne : db ≠ b) : boxIn ρ g sf lb sb db w' :=
  (hg.block db (lt_of_heap h) (fun e => hne (by injection e))).trans h
set_option maxRecDepth 100000 in
set_option maxHeartbeats 4000000 in
theorem med_any (L : LaysGg.n38 P ρ) (C : SrtC P lt g sf lb sb w0 gb N) (a b c cb : Nat) (s : Int) (h0 : 0 ≤ s) (h1 : s < 90) (d : Array Cell) (w : World) (h : SrtN ρ w0 gb N cb s d w) (ha : a < N) (hb : b < N) (hc : c < N) :
    Calls P (ρ.f 38) #[.agg #[.func (.func g) #[] lb, .func (.func sf) #[] sb], .int .i64 a, .int .i64 b, .int .i64 c, .pointer (some ⟨cb, 0, none⟩)] w fun e w' => ∃ (y : Nat) (s' : Int), e = .returned (.int .i64 y) ∧ (y = a ∨ y = b ∨ y = c) ∧ (0 ≤ s' ∧ s' ≤ s + 3) ∧ SrtN ρ w0 gb N cb s' d w' ∧ w.grownBy w' (some cb) := by
  have mixed := L.mixed; have t0 := L.t0; have a0 := L.a0; have z0 := L.z0; have v0 := L.v0; have t3 := L.t3; have a3 := L.a3; have z3 := L.z3; have v3 := L.v3; have t4 := L.t4; have a4 := L.a4; have z4 := L.z4; have v4 := L.v4; have t26 := L.t26; have a26 := L.a26; have z26 := L.z26; have v26 := L.v26; have t37 := L.t37; have a37 := L.a37; have z37 := L.z37; have v37 := L.v37; have t44 := L.t44; have a44 := L.a44; have z44 := L.z44; have v44 := L.v44; have t64 := L.t64; have a64 := L.a64; have z64 := L.z64; have v64 := L.v64; have t67 := L.t67; have a67 := L.a67; have z67 := L.z67; have v67 := L.v67
  have u44 := run_underlying L.t44
  have e39 : ∀ args w, (callFunc (ρ.f 39) args).run P w = .ok (.enter (ρ.f 39) args) w := enters_of L.f39 (by kernel_rfl) rfl
  have OD := Lib.hid fun (a b cb : Nat) (s : Int) h0 h1 (d : Array Cell) (w : World) => ord_any (P := P) (ρ := ρ) { L with } C a b cb s h0 h1 d w
  have CC := Lib.hid C
  have HN := Lib.hid h
  clear C h
  go_enter L.f38, BodyGg.n38_ntmps ρ
  have hx := ext_alloc (.cells #[.func (.func g) #[] lb, .func (.func sf) #[] sb] (ρ.t 44)) (ext_refl w)
  have N1 := Lib.hid (HN.out.ext CC.out.lo hx)
  have G1 := Lib.hid (grown_more (r := some cb) hx)
  have B1 := Lib.hid (show boxIn ρ g sf lb sb w.heap.size (w.alloc (.cells #[.func (.func g) #[] lb, .func (.func sf) #[] sb] (ρ.t 44))) from heap_alloc_at _ _)
  have NE := Lib.hid (show w.heap.size ≠ cb by have := lt_of_heap HN.out.cnt; omega)
  clear hx HN
  go_wp2_with fail
  generalize w.alloc (.cells #[.func (.func g) #[] lb, .func (.func sf) #[] sb] (ρ.t 44)) = wa at N1 G1 B1 ⊢
  generalize w.heap.size = db at B1 NE ⊢
  refine (OD.out a b cb s (by omega) (by omega) d _ N1.out (by omega) (by omega)).mono ?_
  rintro _ w2 ⟨x1, y1, s1, rfl, hp1, hs1, hN, hg⟩
  have N2 := Lib.hid hN
  have G2 := Lib.hid (G1.out.trans hg)
  have B2 := Lib.hid (B1.out.kept hg NE.out)
  clear hN hg N1 G1 B1
  obtain ⟨c0, c1, hdb⟩ := B2.out.cells
  go_wp2_with fail
  clear c0 c1 hdb
  refine (OD.out y1 c cb s1 (by omega) (by omega) d _ N2.out (by omega) (by omega)).mono ?_
  rintro _ w3 ⟨x2, y2, s2, rfl, hp2, hs2, hN, hg⟩
  have N3 := Lib.hid hN
  have G3 := Lib.hid (G2.out.trans hg)
  have B3 := Lib.hid (B2.out.kept hg NE.out)
  clear hN hg N2 G2 B2
  obtain ⟨c0, c1, hdb⟩ := B3.out.cells
  go_wp2_with fail
  clear c0 c1 hdb
  refine (OD.out x1 x2 cb s2 (by omega) (by omega) d _ N3.out (by omega) (by omega)).mono ?_
  rintro _ w4 ⟨x3, y3, s3, rfl, hp3, hs3, hN, hg⟩
  have N4 := Lib.hid hN
  have G4 := Lib.hid (G3.out.trans hg)
  have B4 := Lib.hid (B3.out.kept hg NE.out)
  clear hN hg N3 G3 B3
  have HP := Lib.hid (show y3 = a ∨ y3 = b ∨ y3 = c by omega)
  clear hp1 hp2 hp3
  go_wp2_with fail
  go_ret
  exact ⟨y3, s3, rfl, HP.out, ⟨by omega, by omega⟩, N4.out, G4.out⟩
theorem med_at (L : LaysGg.n38 P ρ) (C : SrtC P lt g sf lb sb w0 gb N) (a b c cb : Nat) (s : Int) (h0 : 0 ≤ s) (h1 : s < 90) (d : Array Cell) (w : World) (h : SrtN ρ w0 gb N cb s d w) (ha : a < N) (hb : b < N) (hc : c < N) (ea eb ec : Int) (e1 : ea = a) (e2 : eb = b) (e3 : ec = c) :
    Calls P (ρ.f 38) #[.agg #[.func (.func g) #[] lb, .func (.func sf) #[] sb], .int .i64 ea, .int .i64 eb, .int .i64 ec, .pointer (some ⟨cb, 0, none⟩)] w fun e w' => ∃ (y : Nat) (s' : Int), e = .returned (.int .i64 y) ∧ (y = a ∨ y = b ∨ y = c) ∧ (0 ≤ s' ∧ s' ≤ s + 3) ∧ SrtN ρ w0 gb N cb s' d w' ∧ w.grownBy w' (some cb) := by
  subst e1 e2 e3
  exact med_any L C a b c cb s h0 h1 d w h ha hb hc
theorem grown_fresh {wa : World} {r : Option Nat} (h1 : w.grownBy wa r) (h2 : wa.grownBy w' (some cb)) (hcb : w.heap.size ≤ cb) : w.grownBy w' r :=
  ⟨h2.os.trans h1.os, h2.tape.trans h1.tape, h2.output.trans h1.output, Nat.le_trans h1.size h2.size, fun k hk hne => (h2.block k (Nat.lt_of_lt_of_le hk h1.size) (fun e => by injection e; omega)).trans (h1.block k hk hne)⟩
set_option maxRecDepth 100000 in
set_option maxHeartbeats 4000000 in
theorem piv_any (L : LaysGg.n29 P ρ) (C : SrtC P lt g sf lb sb w0 gb N) (a b : Nat) (d : Array Cell) (w : World) (h : SrtI w0 gb N d w) (hab : a + 12 < b) (hb : b ≤ N) :
    Calls P (ρ.f 29) #[.agg #[.func (.func g) #[] lb, .func (.func sf) #[] sb], .int .i64 a, .int .i64 b] w fun e w' => ∃ (p : Nat) (hh : Int), e = .returned (.tuple #[.int .i64 p, .int .i64 hh]) ∧ (a ≤ p ∧ p < b) ∧ (hh = 0 ∨ hh = 1 ∨ hh = 2) ∧ SrtI w0 gb N d w' ∧ w.grownBy w' (some gb) := by
  have mixed := L.mixed; have t0 := L.t0; have a0 := L.a0; have z0 := L.z0; have v0 := L.v0; have t3 := L.t3; have a3 := L.a3; have z3 := L.z3; have v3 := L.v3; have t4 := L.t4; have a4 := L.a4; have z4 := L.z4; have v4 := L.v4; have t26 := L.t26; have a26 := L.a26; have z26 := L.z26; have v26 := L.v26; have t37 := L.t37; have a37 := L.a37; have z37 := L.z37; have v37 := L.v37; have t44 := L.t44; have a44 := L.a44; have z44 := L.z44; have v44 := L.v44; have t53 := L.t53; have a53 := L.a53; have z53 := L.z53; have v53 := L.v53; have t64 := L.t64; have a64 := L.a64; have z64 := L.z64; have v64 := L.v64; have t67 := L.t67; have a67 := L.a67; have z67 := L.z67; have v67 := L.v67
  have u44 := run_underlying L.t44
  have e38 : ∀ args w, (callFunc (ρ.f 38) args).run P w = .ok (.enter (ρ.f 38) args) w := enters_of L.f38 (by kernel_rfl) rfl
  have MD := Lib.hid fun (a b c cb : Nat) (s : Int) h0 h1 (d : Array Cell) (w : World) => med_at (P := P) (ρ := ρ) { L with } C a b c cb s h0 h1 d w
  have CC := Lib.hid C
  have few := C.few
  have HI := Lib.hid h
  clear C h
  go_enter L.f29, BodyGg.n29_ntmps ρ
  have hl8 : (8 : Int) ≤ (b : Int) - a := by omega
  have hl50 : ¬ (50 : Int) ≤ (b : Int) - a := by omega
  go_wp2_with fail
  have hx := ext_alloc (.cells #[.int .i64 0] (ρ.t 3)) (ext_alloc (.cells #[.func (.func g) #[] lb, .func (.func sf) #[] sb] (ρ.t 44)) (ext_refl w))
  have hsz : (w.alloc (.cells #[.func (.func g) #[] lb, .func (.func sf) #[] sb] (ρ.t 44))).heap.size = w.heap.size + 1 := by simp
  have N1 := Lib.hid (show SrtN ρ w0 gb N (w.heap.size + 1) 0 d ((w.alloc (.cells #[.func (.func g) #[] lb, .func (.func sf) #[] sb] (ρ.t 44))).alloc (.cells #[.int .i64 0] (ρ.t 3))) from
    ⟨HI.out.ext CC.out.lo hx, by rw [← hsz]; exact heap_alloc_at _ _, by have := HI.out.k.size; omega⟩)
  have G1 := Lib.hid (grown_more (r := some gb) hx)
  have CL := Lib.hid (show w.heap.size ≤ w.heap.size + 1 by omega)
  clear hx hsz HI
  generalize (w.alloc (.cells #[.func (.func g) #[] lb, .func (.func sf) #[] sb] (ρ.t 44))).alloc (.cells #[.int .i64 0] (ρ.t 3)) = wa at N1 G1 ⊢
  generalize w.heap.size + 1 = cb at N1 CL ⊢
  refine (MD.out (a + (b - a) / 4) (a + (b - a) / 4 * 2) (a + (b - a) / 4 * 3) cb 0 (by omega) (by omega) d _ N1.out (by omega) (by omega) (by omega) _ _ _ (by omega) (by omega) (by omega)).mono ?_
  rintro _ w2 ⟨y, s, rfl, hy, hs, hN, hg⟩
  have N2 := Lib.hid hN
  have G2 := Lib.hid (grown_fresh G1.out hg CL.out)
  have HY := Lib.hid (show a ≤ y ∧ y < b by omega)
  clear hN hg N1 G1 CL hy MD
  obtain ⟨k0, k1, kl⟩ := N2.out.cells
  by_cases hs0 : s = 0
  · subst hs0
    go_wp2_with fail
    go_ret2
    exact ⟨y, 1, rfl, HY.out, by omega, N2.out.i, G2.out⟩
  · have hb0 : (s == 0) = false := by simp [hs0]
    have hb12 : (s == 12) = false := by simp; omega
    have HS := Lib.hid hs0
    clear hs0
    go_wp2_with fail
    go_ret2
    exact ⟨y, 0, rfl, HY.out, by omega, N2.out.i, G2.out⟩
end Go.Proofs.YtcbcknfhblamfaaGreatDoor
namespace Go.Proofs.YtcbcknfhblamfaaGreatDoor
open Go.RowKit Go.Shelf Go.Sort

variable {P : Program} {ρ : Ren} {lt : Cell → Cell → Bool} {g sf : Nat} {lb sb : Array Value} {w0 : World} {gb N : Nat}
set_option maxRecDepth 100000 in
set_option maxHeartbeats 4000000 in
theorem pis_any (L : LaysGg.n31 P ρ) (S : SWO lt) (C : SrtC P lt g sf lb sb w0 gb N) (a b : Nat) (d : Array Cell) (w : World) (h : SrtI w0 gb N d w) (hab : a < b) (hb : b ≤ N) :
    Calls P (ρ.f 31) #[.agg #[.func (.func g) #[] lb, .func (.func sf) #[] sb], .int .i64 a, .int .i64 b] w fun e w' => ∃ r : Bool, e = .returned (.bool r) ∧ (r = true → SortedIn lt a b d) ∧ SrtI w0 gb N d w' ∧ w.grownBy w' (some gb) := by
  have mixed := L.mixed; have t0 := L.t0; have a0 := L.a0; have z0 := L.z0; have v0 := L.v0; have t3 := L.t3; have a3 := L.a3; have z3 := L.z3; have v3 := L.v3; have t4 := L.t4; have a4 := L.a4; have z4 := L.z4; have v4 := L.v4; have t26 := L.t26; have a26 := L.a26; have z26 := L.z26; have v26 := L.v26; have t37 := L.t37; have a37 := L.a37; have z37 := L.z37; have v37 := L.v37; have t44 := L.t44; have a44 := L.a44; have z44 := L.z44; have v44 := L.v44
  have u44 := run_underlying L.t44
  have eg := C.enter
  have CC := Lib.hid C
  have few := C.few
  have HI := Lib.hid h
  clear C h
  go_enter L.f31, BodyGg.n31_ntmps ρ
  go_wp2_with fail
  have X0 := Lib.hid (SrtX.enter (ρ := ρ) (g := g) (sf := sf) (lb := lb) (sb := sb) HI.out CC.out.lo)
  clear HI
  generalize w.alloc (.cells #[.func (.func g) #[] lb, .func (.func sf) #[] sb] (ρ.t 44)) = wa at X0 ⊢
  generalize w.heap.size = db at X0 ⊢
  refine wp_loop_rounds 1 ?_
  rw [rounds_succ]
  go_wp2_with fail
  go_loopw [7] (fun vi wr => ∃ i : Nat, vi = .int .i64 i ∧ a < i ∧ i ≤ b ∧ Hid (SrtX ρ g sf lb sb w0 gb N w db d wr) ∧ Hid (SortedIn lt a i d)) (fun vi _ => b - (intOf vi).toNat)
  case atStart => exact ⟨a + 1, by go_num, by omega, by omega, X0, Lib.hid (fun i j hi hij hj => by omega)⟩
  case round =>
    clear X0
    obtain ⟨i, rfl, hai, hib, X, HS⟩ := hrel
    have hl50 : (b : Int) - a < 50 := by omega
    by_cases hlt : i < b
    · have hlt' : (i : Int) < b := by omega
      have hne : ((i : Int) == b) = false := by simp; omega
      obtain ⟨c0, c1, hdb⟩ := X.out.cells
      cases hlv : lt d[i]! d[i - 1]! with
      | true =>
        have HL := Lib.hid hlv
        have X1 := X
        clear hlv X
        go_wp2_with (go_at_fn g; refine (X1.out.lt_ CC.out HL.out _ _ (by omega) (by omega) (by omega) (by omega)).mono ?_; clear c0 c1 hdb X1; rintro _ w2 ⟨rfl, hX⟩; have X2 := Lib.hid hX; clear hX)
        go_ret
        exact ⟨false, rfl, (fun e => by cases e), X2.out.i, X2.out.k⟩
      | false =>
        have HL := Lib.hid hlv
        have X1 := X
        clear hlv X
        go_wp2_with (go_at_fn g; refine (X1.out.lt_ CC.out HL.out _ _ (by omega) (by omega) (by omega) (by omega)).mono ?_; clear c0 c1 hdb X1; rintro _ w2 ⟨rfl, hX⟩; have X2 := Lib.hid hX; clear hX)
        go_roundw
        case rel => exact ⟨i + 1, by go_num, by omega, by omega, X2, Lib.hid (SortedIn.snoc S HS.out HL.out)⟩
        case measure => simp [intOf]; omega
    · obtain rfl : i = b := by omega
      go_wp2_with fail
      go_ret
      exact ⟨true, rfl, fun _ => HS.out, X.out.i, X.out.k⟩
end Go.Proofs.YtcbcknfhblamfaaGreatDoor
