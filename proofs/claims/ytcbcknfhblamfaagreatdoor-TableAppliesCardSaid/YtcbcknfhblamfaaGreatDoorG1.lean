/- Rows that are put in order by sort's functions, with a 'less' that lays blocks: what stands meanwhile. · sort.insertionSort_func at rows (the walk). -/
import Derived.Test.YtcbcknfhblamfaaGreatDoorProg
import Derived.Test.YtcbcknfhblamfaaGreatDoorCmpG
import Derived.Shelf.GgSortFunc.SmallK
import Derived.Maps.AppendAt
import Derived.Shelf.GgSortFunc.InsertionK
namespace Go.Proofs.YtcbcknfhblamfaaGreatDoor
open Go.RowKit Go.Shelf Go.Sort

/-- A row is ahead of another one. -/
def ltC (c d : Cell) : Bool := kless (ck c) (ck d)
theorem ltC_eq : ltC = ltOf ccmp := by funext c d; rw [ltOf_ccmp]; rfl
theorem swo_ltC : SWO ltC := by rw [ltC_eq]; exact swoC
theorem grown_more {w w' : World} {r : Option Nat} (h : ∃ x, w' = ext w x) : w.grownBy w' r :=
  ⟨(ext_iff.1 h).os, (ext_iff.1 h).tape, (ext_iff.1 h).output, (ext_iff.1 h).size, fun k hk _ => (ext_iff.1 h).block k hk⟩
/-- The rows d lie in block gb; all else of w0 is as it was. -/
structure SrtI (w0 : World) (gb N : Nat) (d : Array Cell) (w : World) : Prop where
  n : d.size = N
  h : HoldsK cellVs 4 w gb 0 d
  k : w0.grownBy w (some gb)
/-- The two closures: less lays blocks at most; swap swaps. -/
structure SrtC (P : Program) (lt : Cell → Cell → Bool) (g sf : Nat) (lb sb : Array Value) (w0 : World) (gb N : Nat) : Prop where
  less : ∀ d w, SrtI w0 gb N d w → ∀ i j : Int, 0 ≤ i → i < N → 0 ≤ j → j < N → Calls P g (#[.int .i64 i, .int .i64 j] ++ lb) w fun e w' => e = .returned (.bool (lt d[i.toNat]! d[j.toNat]!)) ∧ ∃ x, w' = ext w x
  swap : SwapSwapsK P sf sb cellVs 4 gb 0 N
  enter : ∀ args w, (callFunc g args).run P w = .ok (.enter g args) w
  lo : gb < w0.heap.size
  few : N < 50
section
variable {P : Program} {ρ : Ren} {lt : Cell → Cell → Bool} {g sf : Nat} {lb sb : Array Value} {w0 w1 w w' : World} {gb db N : Nat} {d : Array Cell}
theorem SrtI.ext (h : SrtI w0 gb N d w) (lo : gb < w0.heap.size) (hx : ∃ x, w' = Go.Proofs.YtcbcknfhblamfaaGreatDoor.ext w x) : SrtI w0 gb N d w' :=
  ⟨h.n, fun j hj => by
    have hb : w'.heap[gb]? = w.heap[gb]? := (ext_iff.1 hx).block gb (Nat.lt_of_lt_of_le lo h.k.size)
    have := h.h j hj
    exact ⟨(World.cell?_of_block hb).trans this.1, (World.frozen?_of_block hb).trans this.2⟩, h.k.trans (grown_more hx)⟩
theorem SrtI.put (h : SrtI w0 gb N d w) (d' : Array Cell) (hd : d'.size = N) : SrtI w0 gb N d' (putRowK cellVs 4 w gb 0 d') ∧ w.grownBy (putRowK cellVs 4 w gb 0 d') (some gb) := by
  have hg : w.grownBy (putRowK cellVs 4 w gb 0 d') (some gb) := by
    refine ⟨rfl, rfl, rfl, ?_, fun k _ hne => ?_⟩
    · show _ ≤ (w.heap.modify gb _).size
      rw [Array.size_modify]; exact Nat.le_refl _
    · show (w.heap.modify gb _)[k]? = _
      rw [Array.getElem?_modify, if_neg (fun e => hne (by rw [e]))]
  exact ⟨⟨hd, holdsK_putRowK cellVs 4 w gb 0 d d' h.h (hd.trans h.n.symm), h.k.trans hg⟩, hg⟩
theorem SrtC.swp (C : SrtC P lt g sf lb sb w0 gb N) (h : SrtI w0 gb N d w) (i j : Int) (hi : 0 ≤ i) (hi' : i < N) (hj : 0 ≤ j) (hj' : j < N) :
    ∃ w', (callFunc sf (#[.int .i64 i, .int .i64 j] ++ sb)).run P w = .ok (.value (.tuple #[])) w' ∧ SrtI w0 gb N (Go.Sort.swp d i.toNat j.toNat) w' ∧ w.grownBy w' (some gb) := by
  have hs := C.swap w d h.h h.n i.toNat j.toNat (by omega) (by omega)
  rw [Int.toNat_of_nonneg hi, Int.toNat_of_nonneg hj] at hs
  have e := swap_worldK cellVs 4 (fun _ => rfl) w 0 0 gb 0 d i.toNat j.toNat (by rw [h.n]; omega) (by rw [h.n]; omega)
  rw [show (putRowK cellVs 4 (Sort.ahead w 0) gb 0 d).drewN 0 = w from putRowK_self cellVs 4 w gb 0 d h.h] at e
  rw [e] at hs
  have hp := h.put (Go.Sort.swp d i.toNat j.toNat) (by rw [size_swp]; exact h.n)
  exact ⟨_, hs, hp.1, hp.2⟩
/-- .. within a function that holds the two closures in a block of its own. -/
structure SrtX (ρ : Ren) (g sf : Nat) (lb sb : Array Value) (w0 : World) (gb N : Nat) (w1 : World) (db : Nat) (d : Array Cell) (w : World) : Prop where
  i : SrtI w0 gb N d w
  box : w.heap[db]? = some (.cells #[.func (.func g) #[] lb, .func (.func sf) #[] sb] (ρ.t 44) (0, 0))
  k : w1.grownBy w (some gb)
  ne : db ≠ gb
theorem SrtX.ext (h : SrtX ρ g sf lb sb w0 gb N w1 db d w) (lo : gb < w0.heap.size) (hx : ∃ x, w' = Go.Proofs.YtcbcknfhblamfaaGreatDoor.ext w x) : SrtX ρ g sf lb sb w0 gb N w1 db d w' :=
  ⟨h.i.ext lo hx, ((ext_iff.1 hx).block db (lt_of_heap h.box)).trans h.box, h.k.trans (grown_more hx), h.ne⟩
theorem SrtX.step {d' : Array Cell} (h : SrtX ρ g sf lb sb w0 gb N w1 db d w) (hI : SrtI w0 gb N d' w') (hk : w.grownBy w' (some gb)) : SrtX ρ g sf lb sb w0 gb N w1 db d' w' :=
  ⟨hI, (hk.block db (lt_of_heap h.box) (fun e => h.ne (by injection e))).trans h.box, h.k.trans hk, h.ne⟩
theorem SrtX.cells (h : SrtX ρ g sf lb sb w0 gb N w1 db d w) : w.cell? ⟨db, 0, none⟩ = some (.func (.func g) #[] lb) ∧ w.cell? ⟨db, 1, none⟩ = some (.func (.func sf) #[] sb) ∧ db < w.heap.size :=
  ⟨by rw [cell_in, h.box]; rfl, by rw [cell_in, h.box]; rfl, lt_of_heap h.box⟩
theorem SrtX.enter (h : SrtI w0 gb N d w) (lo : gb < w0.heap.size) : SrtX ρ g sf lb sb w0 gb N w w.heap.size d (w.alloc (.cells #[.func (.func g) #[] lb, .func (.func sf) #[] sb] (ρ.t 44))) :=
  ⟨h.ext lo (ext_alloc _ (ext_refl w)), heap_alloc_at _ _, grown_more (ext_alloc _ (ext_refl w)), by have := h.k.size; omega⟩
theorem SrtX.less (C : SrtC P lt g sf lb sb w0 gb N) (h : SrtX ρ g sf lb sb w0 gb N w1 db d w) (i j : Int) (hi : 0 ≤ i) (hi' : i < N) (hj : 0 ≤ j) (hj' : j < N) :
    Calls P g (#[.int .i64 i, .int .i64 j] ++ lb) w fun e w' => e = .returned (.bool (lt d[i.toNat]! d[j.toNat]!)) ∧ SrtX ρ g sf lb sb w0 gb N w1 db d w' ∧ w.heap.size ≤ w'.heap.size :=
  (C.less d w h.i i j hi hi' hj hj').mono fun _ _ ⟨he, hx⟩ => ⟨he, h.ext C.lo hx, (ext_iff.1 hx).size⟩
theorem SrtX.swp (C : SrtC P lt g sf lb sb w0 gb N) (h : SrtX ρ g sf lb sb w0 gb N w1 db d w) (i j : Int) (hi : 0 ≤ i) (hi' : i < N) (hj : 0 ≤ j) (hj' : j < N) :
    ∃ w', (callFunc sf (#[.int .i64 i, .int .i64 j] ++ sb)).run P w = .ok (.value (.tuple #[])) w' ∧ SrtX ρ g sf lb sb w0 gb N w1 db (Go.Sort.swp d i.toNat j.toNat) w' := by
  obtain ⟨w', hs, hI, hk⟩ := C.swp h.i i j hi hi' hj hj'
  exact ⟨w', hs, h.step hI hk⟩
theorem SrtC.lt_ (C : SrtC P lt g sf lb sb w0 gb N) (h : SrtI w0 gb N d w) {i j : Nat} {b : Bool} (hv : lt d[i]! d[j]! = b) (ei ej : Int) (h1 : ei = i) (h2 : ej = j) (hi : i < N) (hj : j < N) :
    Calls P g (#[.int .i64 ei, .int .i64 ej] ++ lb) w fun e w' => e = .returned (.bool b) ∧ ∃ x, w' = Go.Proofs.YtcbcknfhblamfaaGreatDoor.ext w x := by
  subst h1 h2 hv
  exact (C.less d w h i j (by omega) (by omega) (by omega) (by omega)).mono fun _ _ ⟨he, hx⟩ => ⟨by rw [Int.toNat_natCast, Int.toNat_natCast] at he; exact he, hx⟩
/-- less, where its answer is known. -/
theorem SrtX.lt_ (C : SrtC P lt g sf lb sb w0 gb N) (h : SrtX ρ g sf lb sb w0 gb N w1 db d w) {i j : Nat} {b : Bool} (hv : lt d[i]! d[j]! = b) (ei ej : Int) (h1 : ei = i) (h2 : ej = j) (hi : i < N) (hj : j < N) :
    Calls P g (#[.int .i64 ei, .int .i64 ej] ++ lb) w fun e w' => e = .returned (.bool b) ∧ SrtX ρ g sf lb sb w0 gb N w1 db d w' := by
  subst h1 h2 hv
  exact (C.less d w h.i i j (by omega) (by omega) (by omega) (by omega)).mono fun _ _ ⟨he, hx⟩ => ⟨by rw [Int.toNat_natCast, Int.toNat_natCast] at he; exact he, h.ext C.lo hx⟩
theorem SrtX.sw (C : SrtC P lt g sf lb sb w0 gb N) (h : SrtX ρ g sf lb sb w0 gb N w1 db d w) (i j : Nat) (ei ej : Int) (h1 : ei = i) (h2 : ej = j) (hi : i < N) (hj : j < N) :
    ∃ w', (callFunc sf (#[.int .i64 ei, .int .i64 ej] ++ sb)).run P w = .ok (.value (.tuple #[])) w' ∧ SrtX ρ g sf lb sb w0 gb N w1 db (Go.Sort.swp d i j) w' := by
  subst h1 h2
  have := h.swp C i j (by omega) (by omega) (by omega) (by omega)
  rwa [Int.toNat_natCast, Int.toNat_natCast] at this
end
end Go.Proofs.YtcbcknfhblamfaaGreatDoor
namespace Go.Proofs.YtcbcknfhblamfaaGreatDoor
open Go.RowKit Go.Shelf Go.Sort

variable {P : Program} {ρ : Ren} {lt : Cell → Cell → Bool} {g sf : Nat} {lb sb : Array Value} {w0 : World} {gb N : Nat}
set_option maxRecDepth 100000 in
set_option maxHeartbeats 4000000 in
theorem ins_any (L : LaysGg.n26 P ρ) (C : SrtC P lt g sf lb sb w0 gb N) (a b : Nat) (d : Array Cell) (w : World) (h : SrtI w0 gb N d w) (hab : a ≤ b) (hb : b ≤ N) :
    Calls P (ρ.f 26) #[.agg #[.func (.func g) #[] lb, .func (.func sf) #[] sb], .int .i64 a, .int .i64 b] w fun e w' => e = .returned (.tuple #[]) ∧ SrtI w0 gb N (insertionSort lt d a b) w' ∧ w.grownBy w' (some gb) := by
  have mixed := L.mixed; have t0 := L.t0; have a0 := L.a0; have z0 := L.z0; have v0 := L.v0; have t3 := L.t3; have a3 := L.a3; have z3 := L.z3; have v3 := L.v3; have t4 := L.t4; have a4 := L.a4; have z4 := L.z4; have v4 := L.v4; have t26 := L.t26; have a26 := L.a26; have z26 := L.z26; have v26 := L.v26; have t37 := L.t37; have a37 := L.a37; have z37 := L.z37; have v37 := L.v37; have t44 := L.t44; have a44 := L.a44; have z44 := L.z44; have v44 := L.v44
  have u44 := run_underlying L.t44
  have eg := C.enter
  have CC := Lib.hid C
  have few := C.few
  have HI := Lib.hid h
  clear C h
  go_enter L.f26, BodyGg.n26_ntmps ρ
  go_wp2_with fail
  have X0 := Lib.hid (SrtX.enter (ρ := ρ) (g := g) (sf := sf) (lb := lb) (sb := sb) HI.out CC.out.lo)
  clear HI
  generalize w.alloc (.cells #[.func (.func g) #[] lb, .func (.func sf) #[] sb] (ρ.t 44)) = wa at X0 ⊢
  generalize w.heap.size = db at X0 ⊢
  go_loopw [6] (fun vi wr => ∃ (i : Nat) (dk : Array Cell), vi = .int .i64 i ∧ a < i ∧ i ≤ b + 1 ∧ Hid (SrtX ρ g sf lb sb w0 gb N w db dk wr) ∧ Hid (insOuter lt a b i dk = insOuter lt a b (a + 1) d)) (fun vi _ => b + 1 - (intOf vi).toNat)
  case atStart => exact ⟨a + 1, d, by go_num, by omega, by omega, X0, Lib.hid rfl⟩
  case round =>
    clear X0
    obtain ⟨i, dk, rfl, hai, hib, X, HO⟩ := hrel
    by_cases hlt : i < b
    · have hlt' : (i : Int) < b := by omega
      go_wp2_with fail
      go_loopw [7] (fun vj wr2 => ∃ (j : Nat) (dj : Array Cell), vj = .int .i64 j ∧ a ≤ j ∧ j ≤ i ∧ Hid (SrtX ρ g sf lb sb w0 gb N w db dj wr2) ∧ Hid (insInner lt a j dj = insInner lt a i dk)) (fun vj _ => (intOf vj).toNat)
      case atStart => exact ⟨i, dk, rfl, by omega, Nat.le_refl _, X, Lib.hid rfl⟩
      case round =>
        clear X
        obtain ⟨j, dj, rfl, haj, hji, X, HJ⟩ := hrel
        by_cases hja : a < j
        · have hja' : (a : Int) < j := by omega
          obtain ⟨c0, c1, hdb⟩ := X.out.cells
          have hl := X.out.less CC.out j ((j : Int) - 1) (by omega) (by omega) (by omega) (by omega)
          rw [show ((j : Int) - 1).toNat = j - 1 by omega, Int.toNat_natCast] at hl
          have X1 := Lib.hid X.out.i
          clear X
          cases hlv : lt dj[j]! dj[j - 1]! with
          | true =>
            rw [hlv] at hl
            have HL := Lib.hid hlv
            clear hlv
            go_wp2_with (go_at_fn g; refine hl.mono ?_; clear hl c0 c1 hdb X1; rintro _ w2 ⟨rfl, hX, hsz⟩; obtain ⟨c0, c1, hdb⟩ := hX.cells; have X2 := Lib.hid hX; clear hX hsz)
            obtain ⟨w3, hs, hX⟩ := X2.out.swp CC.out j ((j : Int) - 1) (by omega) (by omega) (by omega) (by omega)
            rw [show ((j : Int) - 1).toNat = j - 1 by omega, Int.toNat_natCast] at hX
            have X3 := Lib.hid hX
            clear hX X2
            rw [hs, Oper.upon_value]
            clear hs c0 c1 hdb
            go_wp2_with fail
            go_roundw
            case rel => exact ⟨j - 1, _, by go_num, by omega, by omega, X3, Lib.hid (by rw [← HJ.out, insInner_go lt a j dj hja HL.out])⟩
            case measure => simp [intOf]; omega
          | false =>
            rw [hlv] at hl
            have HL := Lib.hid hlv
            clear hlv
            go_wp2_with (go_at_fn g; refine hl.mono ?_; clear hl c0 c1 hdb X1; rintro _ w2 ⟨rfl, hX, hsz⟩; have X2 := Lib.hid hX; clear hX hsz)
            go_roundw
            case rel => exact ⟨i + 1, dj, by go_num, by omega, by omega, X2, Lib.hid (by rw [← HO.out, insOuter_go _ _ _ _ _ hlt, ← HJ.out, insInner_stop _ _ _ _ (Or.inr HL.out)])⟩
            case measure => simp [intOf]; omega
        · have hja' : ¬ (a : Int) < j := by omega
          go_wp2_with fail
          go_roundw
          case rel => exact ⟨i + 1, dj, by go_num, by omega, by omega, X, Lib.hid (by rw [← HO.out, insOuter_go _ _ _ _ _ hlt, ← HJ.out, insInner_stop _ _ _ _ (Or.inl (by omega))])⟩
          case measure => simp [intOf]; omega
    · have hlt' : ¬ (i : Int) < b := by omega
      go_wp2_with fail
      go_end0
      exact ⟨rfl, by unfold insertionSort; rw [← HO.out, insOuter_stop _ _ _ _ _ hlt]; exact X.out.i, X.out.k⟩
end Go.Proofs.YtcbcknfhblamfaaGreatDoor
