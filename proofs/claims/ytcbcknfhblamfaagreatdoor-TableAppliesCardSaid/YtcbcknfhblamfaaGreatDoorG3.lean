/- sort.heapSort_func at rows (the walk). · sort.order2_func and sort.median_func at rows (the walks): which of the places, is left open. -/
import Derived.Test.YtcbcknfhblamfaaGreatDoorProg
import Derived.Test.YtcbcknfhblamfaaGreatDoorG2
import Derived.Test.YtcbcknfhblamfaaGreatDoorG1
import Derived.Test.YtcbcknfhblamfaaGreatDoorWords
import Derived.Shelf.GgSortFunc.InsertionK
namespace Go.Proofs.YtcbcknfhblamfaaGreatDoor
open Go.RowKit Go.Shelf Go.Sort

variable {P : Program} {ρ : Ren} {lt : Cell → Cell → Bool} {g sf : Nat} {lb sb : Array Value} {w0 : World} {gb N : Nat}
theorem sift_at (L : LaysGg.n34 P ρ) (C : SrtC P lt g sf lb sb w0 gb N) (lo hi F : Nat) {d : Array Cell} {w : World} (h : SrtI w0 gb N d w) (hlo : lo ≤ hi) (hb : F + hi ≤ N) (el eh eF : Int) (h1 : el = lo) (h2 : eh = hi) (h3 : eF = F) :
    Calls P (ρ.f 34) #[.agg #[.func (.func g) #[] lb, .func (.func sf) #[] sb], .int .i64 el, .int .i64 eh, .int .i64 eF] w fun e w' => e = .returned (.tuple #[]) ∧ SrtI w0 gb N (siftDown lt hi F lo d) w' ∧ w.grownBy w' (some gb) := by
  subst h1 h2 h3
  exact sift_any L C lo hi F d w h hlo hb
set_option maxRecDepth 100000 in
set_option maxHeartbeats 4000000 in
theorem heap_any (L : LaysGg.n27 P ρ) (C : SrtC P lt g sf lb sb w0 gb N) (a b : Nat) (d : Array Cell) (w : World) (h : SrtI w0 gb N d w) (hab : a < b) (hb : b ≤ N) :
    Calls P (ρ.f 27) #[.agg #[.func (.func g) #[] lb, .func (.func sf) #[] sb], .int .i64 a, .int .i64 b] w fun e w' => e = .returned (.tuple #[]) ∧ SrtI w0 gb N (heapSort lt d a b) w' ∧ w.grownBy w' (some gb) := by
  have mixed := L.mixed; have t0 := L.t0; have a0 := L.a0; have z0 := L.z0; have v0 := L.v0; have t3 := L.t3; have a3 := L.a3; have z3 := L.z3; have v3 := L.v3; have t4 := L.t4; have a4 := L.a4; have z4 := L.z4; have v4 := L.v4; have t26 := L.t26; have a26 := L.a26; have z26 := L.z26; have v26 := L.v26; have t37 := L.t37; have a37 := L.a37; have z37 := L.z37; have v37 := L.v37; have t44 := L.t44; have a44 := L.a44; have z44 := L.z44; have v44 := L.v44
  have u44 := run_underlying L.t44
  have e34 : ∀ args w, (callFunc (ρ.f 34) args).run P w = .ok (.enter (ρ.f 34) args) w := enters_of L.f34 (by kernel_rfl) rfl
  have SD := fun (lo hi F : Nat) (d : Array Cell) (w : World) => sift_at (P := P) (ρ := ρ) { L with } C lo hi F (d := d) (w := w)
  have HSD := Lib.hid SD
  clear SD
  have CC := Lib.hid C
  have few := C.few
  have HI := Lib.hid h
  clear C h
  go_enter L.f27, BodyGg.n27_ntmps ρ
  go_wp2_with fail
  have X0 := Lib.hid (SrtX.enter (ρ := ρ) (g := g) (sf := sf) (lb := lb) (sb := sb) HI.out CC.out.lo)
  clear HI
  generalize w.alloc (.cells #[.func (.func g) #[] lb, .func (.func sf) #[] sb] (ρ.t 44)) = wa at X0 ⊢
  generalize w.heap.size = db at X0 ⊢
  go_loopw [9] (fun vi wr => ∃ (k : Nat) (dk : Array Cell), vi = .int .i64 ((k : Int) - 1) ∧ k ≤ (b - a - 1) / 2 + 1 ∧ Hid (SrtX ρ g sf lb sb w0 gb N w db dk wr) ∧ Hid (heapBuild lt (b - a) a k dk = heapBuild lt (b - a) a ((b - a - 1) / 2 + 1) d)) (fun vi _ => (intOf vi + 1).toNat)
  case atStart => exact ⟨(b - a - 1) / 2 + 1, d, by go_num, Nat.le_refl _, X0, Lib.hid rfl⟩
  case round =>
    clear X0
    obtain ⟨k, dk, rfl, hk, X, HO⟩ := hrel
    obtain ⟨c0, c1, hdb⟩ := X.out.cells
    by_cases h0 : k = 0
    · subst h0
      rw [show (((0 : Nat) : Int) - 1) = -1 from rfl]
      clear c0 c1 hdb
      have HB := Lib.hid (show heapBuild lt (b - a) a ((b - a - 1) / 2 + 1) d = dk from HO.out.symm)
      clear HO
      go_wp2_with fail
      go_loopw [10] (fun vi wr => ∃ (k : Nat) (dq : Array Cell), vi = .int .i64 ((k : Int) - 1) ∧ k ≤ b - a ∧ Hid (SrtX ρ g sf lb sb w0 gb N w db dq wr) ∧ Hid (heapPop lt a k dq = heapPop lt a (b - a) dk)) (fun vi _ => (intOf vi + 1).toNat)
      case atStart => exact ⟨b - a, dk, by go_num, Nat.le_refl _, X, Lib.hid rfl⟩
      case round =>
        clear X
        obtain ⟨k, dq, rfl, hk, X, HO⟩ := hrel
        by_cases h0 : k = 0
        · subst h0
          go_wp2_with fail
          go_end0
          exact ⟨rfl, by unfold heapSort; rw [HB.out, ← HO.out]; exact X.out.i, X.out.k⟩
        · obtain ⟨j, rfl⟩ : ∃ j, k = j + 1 := ⟨k - 1, by omega⟩
          rw [show (((j + 1 : Nat) : Int) - 1) = j by omega]
          have h0' : (0 : Int) ≤ j := by omega
          obtain ⟨c0, c1, hdb⟩ := X.out.cells
          obtain ⟨w2, hs, hX⟩ := X.out.sw CC.out a (a + j) (a : Int) ((a : Int) + j) (by omega) (by omega) (by omega) (by omega)
          have X2 := Lib.hid hX
          clear hX X
          have HS := Lib.hid hs
          clear hs
          go_wp2_with fail
          rw [HS.out, Oper.upon_value]
          clear HS c0 c1 hdb
          obtain ⟨c0, c1, hdb⟩ := X2.out.cells
          go_wp2_with fail
          refine (HSD.out 0 j a _ _ X2.out.i (by omega) (by omega) _ _ _ (by omega) (by omega) (by omega)).mono ?_
          clear c0 c1 hdb
          rintro _ w3 ⟨rfl, hI, hK⟩
          have X3 := Lib.hid (X2.out.step hI hK)
          clear hI hK X2
          go_wp2_with fail
          go_roundw
          case rel => exact ⟨j, _, by go_num, by omega, X3, Lib.hid (by rw [← HO.out]; rfl)⟩
          case measure => simp [intOf]
    · obtain ⟨j, rfl⟩ : ∃ j, k = j + 1 := ⟨k - 1, by omega⟩
      rw [show (((j + 1 : Nat) : Int) - 1) = j by omega]
      have h0' : (0 : Int) ≤ j := by omega
      go_wp2_with fail
      refine (HSD.out j (b - a) a _ _ X.out.i (by omega) (by omega) _ _ _ (by omega) (by omega) (by omega)).mono ?_
      clear c0 c1 hdb
      rintro _ w3 ⟨rfl, hI, hK⟩
      have X3 := Lib.hid (X.out.step hI hK)
      clear hI hK X
      go_wp2_with fail
      go_roundw
      case rel => exact ⟨j, _, by go_num, by omega, X3, Lib.hid (by rw [← HO.out]; rfl)⟩
      case measure => simp [intOf]
end Go.Proofs.YtcbcknfhblamfaaGreatDoor
namespace Go.Proofs.YtcbcknfhblamfaaGreatDoor
open Go.RowKit Go.Shelf Go.Sort

/-- .. with a counter of exchanges besides. -/
structure SrtN (ρ : Ren) (w0 : World) (gb N cb : Nat) (s : Int) (d : Array Cell) (w : World) : Prop where
  i : SrtI w0 gb N d w
  cnt : w.heap[cb]? = some (.cells #[.int .i64 s] (ρ.t 3) (0, 0))
  lo : w0.heap.size ≤ cb
variable {P : Program} {ρ : Ren} {lt : Cell → Cell → Bool} {g sf : Nat} {lb sb : Array Value} {w0 w w' : World} {gb N cb : Nat} {s : Int} {d : Array Cell}
theorem SrtN.ext (h : SrtN ρ w0 gb N cb s d w) (lo : gb < w0.heap.size) (hx : ∃ x, w' = Go.Proofs.YtcbcknfhblamfaaGreatDoor.ext w x) : SrtN ρ w0 gb N cb s d w' :=
  ⟨h.i.ext lo hx, ((ext_iff.1 hx).block cb (lt_of_heap h.cnt)).trans h.cnt, h.lo⟩
theorem SrtN.put (h : SrtN ρ w0 gb N cb s d w) (lo : gb < w0.heap.size) (s' : Int) : SrtN ρ w0 gb N cb s' d (w.setCell ⟨cb, 0, none⟩ (.int .i64 s')) ∧ w.grownBy (w.setCell ⟨cb, 0, none⟩ (.int .i64 s')) (some cb) := by
  have hl := h.lo
  have hg : w.grownBy (w.setCell ⟨cb, 0, none⟩ (.int .i64 s')) (some cb) := grown_setCell w cb 0 _
  have hb : (w.setCell ⟨cb, 0, none⟩ (.int .i64 s')).heap[gb]? = w.heap[gb]? := hg.block gb (Nat.lt_of_lt_of_le lo h.i.k.size) (fun e => by injection e; omega)
  refine ⟨⟨⟨h.i.n, fun j hj => ?_, ?_⟩, ?_, h.lo⟩, hg⟩
  · have := h.i.h j hj
    exact ⟨(World.cell?_of_block hb).trans this.1, (World.frozen?_of_block hb).trans this.2⟩
  · exact ⟨h.i.k.os, h.i.k.tape, h.i.k.output, Nat.le_trans h.i.k.size hg.size, fun k hk hne => (hg.block k (Nat.lt_of_lt_of_le hk h.i.k.size) (fun e => by injection e; omega)).trans (h.i.k.block k hk hne)⟩
  · rw [heap_setCell h.cnt]; rfl
theorem SrtN.cells (h : SrtN ρ w0 gb N cb s d w) : w.cell? ⟨cb, 0, none⟩ = some (.int .i64 s) ∧ w.frozen? ⟨cb, 0, none⟩ = false ∧ cb < w.heap.size :=
  ⟨by rw [cell_in, h.cnt]; rfl, free_of_heap h.cnt 0, lt_of_heap h.cnt⟩
set_option maxRecDepth 100000 in
set_option maxHeartbeats 4000000 in
theorem ord_any (L : LaysGg.n39 P ρ) (C : SrtC P lt g sf lb sb w0 gb N) (a b cb : Nat) (s : Int) (h0 : 0 ≤ s) (h1 : s < 100) (d : Array Cell) (w : World) (h : SrtN ρ w0 gb N cb s d w) (ha : a < N) (hb : b < N) :
    Calls P (ρ.f 39) #[.agg #[.func (.func g) #[] lb, .func (.func sf) #[] sb], .int .i64 a, .int .i64 b, .pointer (some ⟨cb, 0, none⟩)] w fun e w' => ∃ (x y : Nat) (s' : Int), e = .returned (.tuple #[.int .i64 x, .int .i64 y]) ∧ ((x = a ∧ y = b) ∨ (x = b ∧ y = a)) ∧ (0 ≤ s' ∧ s' ≤ s + 1) ∧ SrtN ρ w0 gb N cb s' d w' ∧ w.grownBy w' (some cb) := by
  have mixed := L.mixed; have t0 := L.t0; have a0 := L.a0; have z0 := L.z0; have v0 := L.v0; have t3 := L.t3; have a3 := L.a3; have z3 := L.z3; have v3 := L.v3; have t4 := L.t4; have a4 := L.a4; have z4 := L.z4; have v4 := L.v4; have t26 := L.t26; have a26 := L.a26; have z26 := L.z26; have v26 := L.v26; have t37 := L.t37; have a37 := L.a37; have z37 := L.z37; have v37 := L.v37; have t44 := L.t44; have a44 := L.a44; have z44 := L.z44; have v44 := L.v44; have t64 := L.t64; have a64 := L.a64; have z64 := L.z64; have v64 := L.v64
  have u44 := run_underlying L.t44
  have eg := C.enter
  have CC := Lib.hid C
  have HN := Lib.hid h
  clear C h
  go_enter L.f39, BodyGg.n39_ntmps ρ
  go_wp2_with fail
  have hN := (HN.out.i.ext CC.out.lo (ext_alloc (.cells #[.func (.func g) #[] lb, .func (.func sf) #[] sb] (ρ.t 44)) (ext_refl w)))
  cases hlv : lt d[b]! d[a]! with
  | true =>
    refine (CC.out.lt_ hN hlv _ _ rfl rfl hb ha).mono ?_
    clear hN hlv
    rintro _ w2 ⟨rfl, hx⟩
    have X2 := Lib.hid (ext_trans (ext_alloc (.cells #[.func (.func g) #[] lb, .func (.func sf) #[] sb] (ρ.t 44)) (ext_refl w)) hx)
    clear hx
    have N2 := Lib.hid (HN.out.ext CC.out.lo X2.out)
    obtain ⟨k0, k1, kl⟩ := N2.out.cells
    go_wp2_with fail
    go_ret2
    have hp := N2.out.put CC.out.lo (s + 1)
    exact ⟨b, a, s + 1, rfl, Or.inr ⟨rfl, rfl⟩, ⟨by omega, by omega⟩, hp.1, (grown_more X2.out).trans hp.2⟩
  | false =>
    refine (CC.out.lt_ hN hlv _ _ rfl rfl hb ha).mono ?_
    clear hN hlv
    rintro _ w2 ⟨rfl, hx⟩
    have X2 := Lib.hid (ext_trans (ext_alloc (.cells #[.func (.func g) #[] lb, .func (.func sf) #[] sb] (ρ.t 44)) (ext_refl w)) hx)
    clear hx
    have N2 := Lib.hid (HN.out.ext CC.out.lo X2.out)
    go_wp2_with fail
    go_ret2
    exact ⟨a, b, s, rfl, Or.inl ⟨rfl, rfl⟩, ⟨by omega, by omega⟩, N2.out, grown_more X2.out⟩
end Go.Proofs.YtcbcknfhblamfaaGreatDoor
