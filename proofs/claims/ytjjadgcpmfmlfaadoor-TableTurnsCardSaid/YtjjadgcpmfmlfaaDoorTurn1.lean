/- TableTurns' closure (the walk). -/
import Derived.Test.YtjjadgcpmfmlfaaDoorProg
import Derived.Test.YtjjadgcpmfmlfaaDoorOwnE
import Derived.Test.YtjjadgcpmfmlfaaDoorTabs
import Derived.Test.YtjjadgcpmfmlfaaDoorInv
namespace Go.Proofs.YtjjadgcpmfmlfaaDoor
open Go.RowKit Go.Shelf

/-- An event of one subject, and of one table, if it names one. -/
def oneE (s t : ByteArray) (e : Ev) : Ev := ⟨e.kind, s, if e.kind = 3 then e.table else t, e.row, e.value⟩
set_option maxRecDepth 100000 in
set_option maxHeartbeats 1000000 in
theorem one_any (q : Option Addr) (cp : Nat) (l : List Ev) (s t : ByteArray) (w : World) (hl : l.length ≤ 30) (he : evsAt w q l) :
    Calls Tryd.prog 65 #[.slice q l.length cp, .string s, .string t] w fun r w' => ∃ v, r = .returned v ∧ ownsEl w' w.heap.size v (l.map (oneE s t)) ∧ Below w.heap.size w w' := by
  have HE := Lib.hid he
  clear he
  go_enter Tryd.func65, Tryd.ntmps65
  go_wp2_with fail
  go_loopw [8, 7] (fun iv lv wr => ∃ k : Nat, k ≤ l.length ∧ iv = .int .i64 k ∧ Hid (ownsEl wr w.heap.size lv ((l.take k).map (oneE s t))) ∧ Hid (Below w.heap.size w wr)) (fun iv _ _ => l.length - (intOf iv).toNat)
  case atStart => exact ⟨0, Nat.zero_le _, rfl, Lib.hid (ownsEl_nil _ _), Lib.hid (Below.refl _ _)⟩
  case round =>
    obtain ⟨k, hk, rfl, OW, BB⟩ := hrel
    by_cases hlt : k < l.length
    · have hx := List.getElem?_eq_getElem hlt
      rcases HE.out with h0 | ⟨g, o, rfl, hg, hc⟩
      · rw [h0] at hlt; cases hlt
      have TT := Lib.hid (show (l.take (k + 1)).map (oneE s t) = (l.take k).map (oneE s t) ++ [oneE s t l[k]] from by
        rw [List.take_add_one, List.map_append, hx]; rfl)
      have hlen : ((l.take k).map (oneE s t)).length ≤ 1099511627776 := by simp; omega
      obtain ⟨e0, e1, e2, e3, e4⟩ := evsAt_cells (w := wr) (g := g) (o := o) (j := k) (fun j e hj i v hi => cell_below (p := ⟨g, o + j * 5 + i, none⟩) BB.out hg (hc j e hj i v hi)) hx
      generalize l[k] = x at hx TT e0 e1 e2 e3 e4
      obtain ⟨x0, x1, x2, x3, x4⟩ := x
      dsimp only at e0 e1 e2 e3 e4
      have hlt' : (k : Int) < l.length := by omega
      clear hc
      generalize (l.take k).map (oneE s t) = acc at TT OW hlen
      generalize hT' : (l.take (k + 1)).map (oneE s t) = acc' at TT
      have hbs := BB.out.size
      by_cases h3 : x0 = 3
      · subst h3
        rw [show oneE s t ⟨3, x1, x2, x3, x4⟩ = ⟨3, s, x2, x3, x4⟩ from rfl] at TT
        have OW8 := Lib.hid (OW.out.kept (World.grownBy_alloc wr (.cells #[.int .i64 3, .string s, .string x2, .string x3, .string x4] 54) none) (by simp))
        have B8 := Lib.hid (BB.out.alloc hbs (.cells #[.int .i64 3, .string s, .string x2, .string x3, .string x4] 54))
        have s9 : (wr.alloc (.cells #[.int .i64 3, .string s, .string x2, .string x3, .string x4] 54)).heap.size = wr.heap.size + 1 := by simp
        have hb9 : w.heap.size ≤ (wr.alloc (.cells #[.int .i64 3, .string s, .string x2, .string x3, .string x4] 54)).heap.size := by rw [s9]; omega
        have NB := Lib.hid (fun g (hg : u7.ownBlock = some g) => (OW.out.base hg).1)
        clear OW BB
        go_wp2_with (at_builtin; go_must (refine append_ev w.heap.size u7 acc ⟨3, s, x2, x3, x4⟩ (.tmp 27) (.tmp 29) _ rfl rfl rfl (by rw [s9]; rfl) OW8.out hlen hb9 ?_); intro v' w' OWn g' hnn)
        go_roundw
        case rel => exact ⟨k + 1, hlt, by go_num, Lib.hid (by rw [hT', TT.out]; exact OWn), Lib.hid (B8.out.grown g' hb9 (fun j hj => NB.out j hj))⟩
        case measure => simp [intOf]; omega
      · rw [show oneE s t ⟨x0, x1, x2, x3, x4⟩ = ⟨x0, s, t, x3, x4⟩ from by unfold oneE; dsimp only; rw [if_neg h3]] at TT
        have OW8 := Lib.hid (OW.out.kept (World.grownBy_alloc wr (.cells #[.int .i64 x0, .string s, .string t, .string x3, .string x4] 54) none) (by simp))
        have B8 := Lib.hid (BB.out.alloc hbs (.cells #[.int .i64 x0, .string s, .string t, .string x3, .string x4] 54))
        have s9 : (wr.alloc (.cells #[.int .i64 x0, .string s, .string t, .string x3, .string x4] 54)).heap.size = wr.heap.size + 1 := by simp
        have hb9 : w.heap.size ≤ (wr.alloc (.cells #[.int .i64 x0, .string s, .string t, .string x3, .string x4] 54)).heap.size := by rw [s9]; omega
        have NB := Lib.hid (fun g (hg : u7.ownBlock = some g) => (OW.out.base hg).1)
        clear OW BB
        go_wp2_with (at_builtin; go_must (refine append_ev w.heap.size u7 acc ⟨x0, s, t, x3, x4⟩ (.tmp 27) (.tmp 29) _ rfl rfl rfl (by rw [s9]; rfl) OW8.out hlen hb9 ?_); intro v' w' OWn g' hnn)
        go_roundw
        case rel => exact ⟨k + 1, hlt, by go_num, Lib.hid (by rw [hT', TT.out]; exact OWn), Lib.hid (B8.out.grown g' hb9 (fun j hj => NB.out j hj))⟩
        case measure => simp [intOf]; omega
    · obtain rfl : k = l.length := by omega
      rw [List.take_length] at OW
      go_wp2_with fail
      go_ret
      exact ⟨_, rfl, OW.out, BB.out⟩
end Go.Proofs.YtjjadgcpmfmlfaaDoor
