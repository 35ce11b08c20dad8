/- oubliettekeep.few, TableLast's closures (the walks). -/
import Derived.Test.YtjjadgcpmfmlfaaDoorProg
import Derived.Test.YtjjadgcpmfmlfaaDoorHas
import Derived.Test.YtjjadgcpmfmlfaaDoorLastL
namespace Go.Proofs.YtjjadgcpmfmlfaaDoor
open Go.RowKit Go.Shelf Go.Lib

def longE (e : Ev) : Bool := decide ((40 : Int) < e.subject.size) || decide ((40 : Int) < e.table.size) || decide ((40 : Int) < e.row.size) || decide ((60 : Int) < e.value.size)
def fewB (l : List Ev) : Bool := decide ((l.length : Int) ≤ 30) && !l.any longE
set_option maxRecDepth 100000 in
theorem few1_any (e : Ev) (w : World) : Calls Tryd.prog 96 #[.agg (evV e)] w (Res (longE e) w) := by
  obtain ⟨k, s, t, r, v⟩ := e
  unfold evV longE
  dsimp only
  go_enter Tryd.func96, Tryd.ntmps96
  cases h0 : decide ((40 : Int) < s.size) <;> cases h1 : decide ((40 : Int) < t.size) <;> cases h2 : decide ((40 : Int) < r.size) <;> cases h3 : decide ((60 : Int) < v.size) <;> (go_wp2_with fail; go_ret; exact ⟨rfl, ext_alloc _ (ext_refl w)⟩)
set_option maxRecDepth 100000 in
theorem few_any (q : Option Addr) (cp : Nat) (l : List Ev) (w : World) (hl : l.length ≤ 9223372036854775807) (he : evsAt w q l) : Calls Tryd.prog 52 #[.slice q l.length cp] w (Res (fewB l) w) := by
  have AN := anyE_any (α := Ev) id longE 96 #[] (enters_of Tryd.func96 (by kernel_rfl) rfl) q cp l w (fun W x hb => (few1_any x W).mono fun e w' ⟨h1, h2⟩ => ⟨h1, hb.trans ((ext_iff.1 h2).mono hb.size)⟩) (by omega) (by rw [List.map_id]; exact he)
  unfold fewB
  generalize l.any longE = a at AN ⊢
  generalize l.length = n at AN ⊢
  clear he
  go_enter Tryd.func52, Tryd.ntmps52
  cases h0 : decide ((n : Int) ≤ 30) with
  | false =>
    go_wp2_with fail
    go_ret
    exact ⟨by simp, ext_refl w⟩
  | true =>
    go_wp2_with fail
    refine AN.mono ?_
    rintro _ w2 ⟨rfl, hx⟩
    have X2 := Lib.hid hx
    clear hx AN
    go_wp2_with fail
    go_ret
    exact ⟨by simp, X2.out⟩
end Go.Proofs.YtjjadgcpmfmlfaaDoor
