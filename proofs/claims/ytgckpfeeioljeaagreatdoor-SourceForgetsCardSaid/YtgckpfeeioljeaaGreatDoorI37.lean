/- slices.IndexFunc at rows: what it answers (by the kit's contract), and a plain law. -/
import Derived.Test.YtgckpfeeioljeaaGreatDoorProg
import Derived.Test.YtgckpfeeioljeaaGreatDoorG23
import Derived.Test.YtgckpfeeioljeaaGreatDoorG22
import Derived.Test.YtgckpfeeioljeaaGreatDoorH36
import Derived.Test.YtgckpfeeioljeaaGreatDoorShelfI
namespace Go.Proofs.YtgckpfeeioljeaaGreatDoor
open Go.RowKit Go.Shelf

/-- The first row that is such a one. -/
theorem idx_first (p : Cell → Bool) (x : Cell) : ∀ (l : List Cell) (i : Nat), (Lib.idxByFrom (fun _ y => p y) x l i = -1 ∧ ∀ y ∈ l, p y = false) ∨ ∃ k, ∃ h : k < l.length, Lib.idxByFrom (fun _ y => p y) x l i = ((i + k : Nat) : Int) ∧ p l[k] = true
  | [], i => .inl ⟨rfl, fun _ h => by cases h⟩
  | y :: r, i => by
    cases h : p y with
    | true => exact .inr ⟨0, by simp, by simp [Lib.idxByFrom, h], by simpa using h⟩
    | false =>
      rcases idx_first p x r (i + 1) with ⟨e, ha⟩ | ⟨k, hk, e, ht⟩
      · refine .inl ⟨by simp [Lib.idxByFrom, h, e], fun z hz => ?_⟩
        rcases List.mem_cons.1 hz with rfl | hz
        · exact h
        · exact ha z hz
      · refine .inr ⟨k + 1, by simpa using hk, ?_, by simpa using ht⟩
        have e' : Lib.idxByFrom (fun _ y => p y) x (y :: r) i = Lib.idxByFrom (fun _ y => p y) x r (i + 1) := by simp [Lib.idxByFrom, h]
        rw [e', e]
        congr 1
        omega
set_option maxRecDepth 100000 in
theorem idxRows_none (q : Option Addr) (c : Nat) (f : Value) (w : World) : Calls Tryz.prog 25 #[.slice q 0 c, f] w fun e w' => e = .returned (.int .i64 (-1)) ∧ w' = w := by
  go_enter Tryz.func25, Tryz.ntmps25
  go_wp2
  refine wp_loop_rounds 1 ?_
  rw [rounds_succ]
  go_wp2_with fail
  go_ret
  exact ⟨rfl, rfl⟩
set_option maxRecDepth 100000 in
/-- IndexFunc, at rows, with a closure that only reads. -/
theorem idxRows_any (p : Cell → Bool) (g : Nat) (lb : Array Value) (eg : ∀ args w, (callFunc g args).run Tryz.prog w = .ok (.enter g args) w) (q : Option Addr) (cp : Nat) (l : List Cell) (w : World)
    (hp : PredBelow Tryz.prog g lb (fun x => .agg (cellVs x).toArray) p w) (hl : l.length ≤ 9223372036854775807) (hc : cellsIn w q l) :
    Calls Tryz.prog 25 #[.slice q l.length cp, .func (.func g) #[] lb] w fun e w' => e = .returned (.int .i64 (Lib.idxBy (fun _ y => p y) l default)) ∧ ∃ x, w' = ext w x := by
  rcases hc with rfl | ⟨b, rfl, hb, hc⟩
  · exact (idxRows_none q cp _ w).mono fun e w' ⟨h1, h2⟩ => ⟨h1, by rw [h2]; exact ext_refl _⟩
  · have h := AnyQ.slices_IndexFunc Tryz.idxCell 4 isAggC sizeOfC cellVs (fun _ => rfl) p g lb eg b 0 l.length cp l w hp (Nat.le_refl _) hl hb hc
    rw [List.take_length] at h
    exact h.mono fun e w' ⟨h1, h2⟩ => ⟨h1, ext_of h2⟩
end Go.Proofs.YtgckpfeeioljeaaGreatDoor
