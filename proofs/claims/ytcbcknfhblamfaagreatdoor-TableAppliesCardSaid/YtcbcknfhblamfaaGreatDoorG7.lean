/- sort.pdqsort_func at fewer than fifty rows (the walk): it puts them in order. -/
import Derived.Test.YtcbcknfhblamfaaGreatDoorProg
import Derived.Test.YtcbcknfhblamfaaGreatDoorG1
import Derived.Test.YtcbcknfhblamfaaGreatDoorG3
import Derived.Test.YtcbcknfhblamfaaGreatDoorG4
import Derived.Test.YtcbcknfhblamfaaGreatDoorG6
import Derived.Shelf.SlSortFuncK.BreakPatternsK
import Derived.Shelf.SlSortFuncK.ComposeK
import Derived.Sort.LotD3
namespace Go.Proofs.YtcbcknfhblamfaaGreatDoor
open Go.RowKit Go.Shelf Go.Sort

variable {P : Program} {ρ : Ren} {lt : Cell → Cell → Bool} {g sf : Nat} {lb sb : Array Value} {w0 w w' : World} {gb N : Nat}
/-- What is left to do: the rows from a to b; put in order, all is. -/
structure Pq (lt : Cell → Cell → Bool) (a0 b0 : Nat) (d : Array Cell) (a b : Nat) (dk : Array Cell) : Prop where
  bel : Go.Sort.Below lt a b dk
  fin : ∀ R, PermIn a b dk R → SortedIn lt a b R → PermIn a0 b0 d R ∧ SortedIn lt a0 b0 R
theorem Pq.start {a b : Nat} {d : Array Cell} (h : Go.Sort.Below lt a b d) : Pq lt a b d a b d := ⟨h, fun _ h1 h2 => ⟨h1, h2⟩⟩
theorem Pq.perm {a0 b0 a b : Nat} {d dk d2 : Array Cell} (h : Pq lt a0 b0 d a b dk) (hb : b ≤ dk.size) (hp : PermIn a b dk d2) : Pq lt a0 b0 d a b d2 :=
  ⟨h.bel.perm hb hp, fun R h1 h2 => h.fin R (permIn_trans _ _ _ a b hp h1) h2⟩
theorem Pq.eq {a0 b0 a b p : Nat} {d d3 : Array Cell} (S : SWO lt) (h : Pq lt a0 b0 d a b d3) (ha : 0 < a) (h1 : a ≤ p) (h2 : p < b) (hb : b ≤ d3.size) (hn : lt d3[a - 1]! d3[p]! = false) :
    a < (partitionEqual lt d3 a b p).1 ∧ (partitionEqual lt d3 a b p).1 ≤ b ∧ Pq lt a0 b0 d (partitionEqual lt d3 a b p).1 b (partitionEqual lt d3 a b p).2 := by
  obtain ⟨r1, r2, _, r4, r5⟩ := round_eq S (partitionEqual_holds lt) ha h1 h2 hb h.bel hn rfl
  exact ⟨r1, r2, r4, fun R hp hs => h.fin R (r5 R hp hs).1 (r5 R hp hs).2⟩
theorem Pq.part {a0 b0 a b p : Nat} {d d3 : Array Cell} (S : SWO lt) (h : Pq lt a0 b0 d a b d3) (h1 : a ≤ p) (h2 : p < b) (hb : b ≤ d3.size) :
    a ≤ (partition lt d3 a b p).1 ∧ (partition lt d3 a b p).1 < b ∧ Go.Sort.Below lt a (partition lt d3 a b p).1 (partition lt d3 a b p).2.2 ∧ Go.Sort.Below lt ((partition lt d3 a b p).1 + 1) b (partition lt d3 a b p).2.2 ∧
    (∀ L, PermIn a (partition lt d3 a b p).1 (partition lt d3 a b p).2.2 L → SortedIn lt a (partition lt d3 a b p).1 L → Pq lt a0 b0 d ((partition lt d3 a b p).1 + 1) b L) ∧
    (∀ L, PermIn ((partition lt d3 a b p).1 + 1) b (partition lt d3 a b p).2.2 L → SortedIn lt ((partition lt d3 a b p).1 + 1) b L → Pq lt a0 b0 d a (partition lt d3 a b p).1 L) := by
  obtain ⟨r1, r2, _, r4, r5, r6, r7⟩ := round_part S (partition_holds lt) (ap := (partition lt d3 a b p).2.1) h1 h2 hb h.bel rfl
  refine ⟨r1, r2, r4, r5, fun L hp hs => ?_, fun L hp hs => ?_⟩
  · obtain ⟨q1, q2⟩ := r6 L hp hs
    exact ⟨q1, fun R hr hR => h.fin R (q2 R hr hR).1 (q2 R hr hR).2⟩
  · obtain ⟨q1, q2⟩ := r7 L hp hs
    exact ⟨q1, fun R hr hR => h.fin R (q2 R hr hR).1 (q2 R hr hR).2⟩
theorem SrtI.sorted {d d' : Array Cell} {n : Nat} {os : Array Obj} (h : SrtI w0 gb N d w) (lo : gb < w0.heap.size) (hd : d'.size = N) (hw : w' = sortWorldK cellVs 4 w gb 0 n d' os) : SrtI w0 gb N d' w' ∧ w.grownBy w' (some gb) := by
  obtain ⟨hI, hg⟩ := h.put d' hd
  have hx : ∃ x, w' = Go.Proofs.YtcbcknfhblamfaaGreatDoor.ext (putRowK cellVs 4 w gb 0 d') x := by
    refine ⟨⟨os, (putRowK cellVs 4 (Sort.ahead w n) gb 0 d').drawn⟩, ?_⟩
    rw [hw]; rfl
  exact ⟨hI.ext lo hx, hg.trans (grown_more hx)⟩
theorem brk_any (L : LaysGg.n28 P ρ) (C : SrtC P lt g sf lb sb w0 gb N) (a b : Nat) (d : Array Cell) (w : World) (h : SrtI w0 gb N d w) (hab : a ≤ b) (hb : b ≤ N) :
    Calls P (ρ.f 28) #[.agg #[.func (.func g) #[] lb, .func (.func sf) #[] sb], .int .i64 a, .int .i64 b] w fun e w' => e = .returned (.tuple #[]) ∧ ∃ d', PermIn a b d d' ∧ SrtI w0 gb N d' w' ∧ w.grownBy w' (some gb) := by
  have hN := h.n
  have hf := C.few
  have hp : PermIn a b d (breakPatterns d a b) := by
    have := step_break d (a := a) (b := b) hab (by omega) True
    rwa [dif_pos trivial] at this
  refine (Any.breakPatterns_func_cells_w L cellVs 4 (fun _ => rfl) (.func g) #[] lb sf sb gb 0 a b d w (by rw [hN]; exact C.swap) h.h (Nat.lt_of_lt_of_le C.lo h.k.size) hab (by omega) (by omega)).mono ?_
  rintro _ w2 ⟨rfl, n, os, hw⟩
  have := h.sorted C.lo (hp.1.trans hN) hw
  exact ⟨rfl, _, hp, this.1, this.2⟩
theorem rev_any (L : LaysGg.n30 P ρ) (C : SrtC P lt g sf lb sb w0 gb N) (a b : Nat) (d : Array Cell) (w : World) (h : SrtI w0 gb N d w) (hab : a ≤ b) (hb : b ≤ N) :
    Calls P (ρ.f 30) #[.agg #[.func (.func g) #[] lb, .func (.func sf) #[] sb], .int .i64 a, .int .i64 b] w fun e w' => e = .returned (.tuple #[]) ∧ ∃ d', PermIn a b d d' ∧ SrtI w0 gb N d' w' ∧ w.grownBy w' (some gb) := by
  have hN := h.n
  have hf := C.few
  have hp : PermIn a b d (reverseRange d a b) := reverseRange_holds d a b hab (by omega)
  refine (Any.reverseRange_func_cells_w L cellVs 4 (fun _ => rfl) (.func g) #[] lb sf sb gb 0 a b d w (by rw [hN]; exact C.swap) h.h (Nat.lt_of_lt_of_le C.lo h.k.size) hab (by omega) (by omega)).mono ?_
  rintro _ w2 ⟨rfl, n, os, hw⟩
  have := h.sorted C.lo (hp.1.trans hN) hw
  exact ⟨rfl, _, hp, this.1, this.2⟩
end Go.Proofs.YtcbcknfhblamfaaGreatDoor
