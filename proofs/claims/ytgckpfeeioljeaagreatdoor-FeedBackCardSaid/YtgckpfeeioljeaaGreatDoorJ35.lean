/- FeedBack's closure, and ContainsFunc with it (the walks). -/
import Derived.Test.YtgckpfeeioljeaaGreatDoorProg
import Derived.Test.YtgckpfeeioljeaaGreatDoorG22
import Derived.Test.YtgckpfeeioljeaaGreatDoorG28
import Derived.Test.YtgckpfeeioljeaaGreatDoorG33
import Derived.Test.YtgckpfeeioljeaaGreatDoorInv
namespace Go.Proofs.YtgckpfeeioljeaaGreatDoor
open Go.RowKit Go.Shelf

theorem txt_same (a b : ByteArray) : decide (txt a = txt b) = (a.toList == b.toList) := by
  rw [ByteArray.toList_eq, ByteArray.toList_eq, Bool.eq_iff_iff, decide_eq_true_eq, beq_iff_eq]
  exact Iff.rfl
theorem evs_tail {w : World} {g o cp i : Nat} {l : List Ev} (h : evsAt w (some ⟨g, o, none⟩) l) (hcp : l.length ≤ cp) : evsAt w (if cp = i then some ⟨g, o, none⟩ else some ⟨g, o + i * 5, none⟩) (l.drop i) := by
  rcases h with h | ⟨g', o', hq, hg, hc⟩
  · subst h; exact .inl (by simp)
  · simp only [Option.some.injEq, Addr.mk.injEq, and_true] at hq
    obtain ⟨rfl, rfl⟩ := hq
    by_cases h0 : i < l.length
    · rw [if_neg (by omega)]
      refine .inr ⟨g, _, rfl, hg, fun j e hj t v hv => ?_⟩
      rw [List.getElem?_drop] at hj
      have := hc _ e hj t v hv
      rw [show o + i * 5 + j * 5 + t = o + (i + j) * 5 + t by omega]
      exact this
    · exact .inl (List.drop_eq_nil_of_le (by omega))
/-- What the closure has captured: the events, the number; and the event that stands there. -/
structure CapE (w : World) (ob ib g o n cap i : Nat) (x : Ev) : Prop where
  ho : ob < w.heap.size
  hi : ib < w.heap.size
  hg : g < w.heap.size
  co : w.cell? ⟨ob, 0, none⟩ = some (.slice (some ⟨g, o, none⟩) n cap)
  ci : w.cell? ⟨ib, 0, none⟩ = some (.int .i64 i)
  lt : i < n
  sj : w.cell? ⟨g, o + i * 5 + 1, none⟩ = some (.string x.subject)
theorem CapE.ext {w w' : World} {ob ib g o n cap i : Nat} {x : Ev} (h : CapE w ob ib g o n cap i x) (hx : ∃ y, w' = Go.Proofs.YtgckpfeeioljeaaGreatDoor.ext w y) : CapE w' ob ib g o n cap i x := by
  have hb := ext_iff.1 hx
  exact ⟨Nat.lt_of_lt_of_le h.ho hb.size, Nat.lt_of_lt_of_le h.hi hb.size, Nat.lt_of_lt_of_le h.hg hb.size, cell_below (p := ⟨ob, 0, none⟩) hb h.ho h.co, cell_below (p := ⟨ib, 0, none⟩) hb h.hi h.ci, h.lt, cell_below (p := ⟨g, _, none⟩) hb h.hg h.sj⟩
set_option maxRecDepth 100000 in
set_option maxHeartbeats 1000000 in
theorem fb1_any (e : Ev) (w : World) (ob ib g o n cap i : Nat) (x : Ev) (h : CapE w ob ib g o n cap i x) :
    Calls Tryz.prog 29 #[.agg (evVs e).toArray, .pointer (some ⟨ob, 0, none⟩), .pointer (some ⟨ib, 0, none⟩)] w (Res (decide (e.kind = 3) && decide (txt e.subject = txt x.subject)) w) := by
  obtain ⟨k, u, t, r, v⟩ := e
  have hX := Lib.hid (h.ext (ext_alloc (.cells #[.int .i64 k, .string u, .string t, .string r, .string v] 51) (ext_refl w)))
  have B1 := Lib.hid (ext_alloc (.cells #[.int .i64 k, .string u, .string t, .string r, .string v] 51) (ext_refl w))
  have H1 := Lib.hid (heap_alloc_at w (.cells #[.int .i64 k, .string u, .string t, .string r, .string v] 51))
  unfold evVs
  dsimp only
  rw [txt_same]
  clear h
  by_cases hk : k = 3
  · have hk' : (k == 3) = true := by simp [hk]
    rw [decide_eq_true hk, Bool.true_and]
    clear hk
    go_enter Tryz.func29, Tryz.ntmps29
    go_wp2_with fail
    generalize w.alloc (.cells #[.int .i64 k, .string u, .string t, .string r, .string v] 51) = w1 at hX B1 H1 ⊢
    obtain ⟨d0, d1, d2, d3, d4⟩ := ev_cells H1.out
    have k0 := hX.out.ho
    have k1 := hX.out.hi
    have k2 := hX.out.hg
    have k3 := hX.out.co
    have k4 := hX.out.ci
    have k5 := hX.out.sj
    have k7 : (i : Int) < n := by have := hX.out.lt; omega
    have k8 := lt_of_heap H1.out
    refine wp_region_ext (by kernel_rfl) (by kernel_rfl) ?_
    repeat (go_big_quiet_step (fail))
    refine wpQuiet_nil ?_
    rintro _ ⟨y, rfl⟩
    have B2 := Lib.hid (ext_trans B1.out ⟨y, rfl⟩)
    generalize ext w1 y = w2 at B2 ⊢
    go_wp2_with fail
    go_ret
    exact ⟨rfl, B2.out⟩
  · have hk' : (k == 3) = false := by simp [hk]
    rw [decide_eq_false hk, Bool.false_and]
    clear hk
    go_enter Tryz.func29, Tryz.ntmps29
    go_wp2_with fail
    generalize w.alloc (.cells #[.int .i64 k, .string u, .string t, .string r, .string v] 51) = w1 at hX B1 H1 ⊢
    obtain ⟨d0, d1, d2, d3, d4⟩ := ev_cells H1.out
    have k8 := lt_of_heap H1.out
    refine wp_region_ext (by kernel_rfl) (by kernel_rfl) ?_
    repeat (go_big_quiet_step (fail))
    refine wpQuiet_nil ?_
    rintro _ ⟨y, rfl⟩
    have B2 := Lib.hid (ext_trans B1.out ⟨y, rfl⟩)
    generalize ext w1 y = w2 at B2 ⊢
    go_wp2_with fail
    go_ret
    exact ⟨rfl, B2.out⟩
/-- ContainsFunc, at the rest. -/
theorem fbc_any (w : World) (ob ib g o cap i : Nat) (ok : List Ev) (x : Ev) (h : CapE w ob ib g o ok.length cap i x) (he : evsAt w (some ⟨g, o, none⟩) ok) (hcp : ok.length ≤ cap) (hz : ok.length ≤ 1048576) :
    Calls Tryz.prog 28 #[.slice (if cap = i + 1 then some ⟨g, o, none⟩ else some ⟨g, o + (i + 1) * 5, none⟩) (ok.length - (i + 1)) (cap - (i + 1)), .func (.func 29) #[] #[.pointer (some ⟨ob, 0, none⟩), .pointer (some ⟨ib, 0, none⟩)]] w (Res (goneIn (ok.drop (i + 1)) x.subject) w) := by
  have R := evs_tail (i := i + 1) he hcp
  have hlen : ok.length - (i + 1) = (ok.drop (i + 1)).length := by simp
  have AN := anyE_any (α := Ev) id (fun e => decide (e.kind = 3) && decide (txt e.subject = txt x.subject)) 29 #[.pointer (some ⟨ob, 0, none⟩), .pointer (some ⟨ib, 0, none⟩)] (enters_of Tryz.func29 (by kernel_rfl) rfl) _ (cap - (i + 1)) (ok.drop (i + 1)) w
    (fun W e hB => (fb1_any e W ob ib g o _ cap i x (h.ext (ext_of hB))).mono fun e w' ⟨h1, h2⟩ => ⟨h1, hB.trans ((ext_iff.1 h2).mono hB.size)⟩)
    (by rw [← hlen]; omega) (by rw [List.map_id]; exact R)
  rw [← hlen] at AN
  exact AN
end Go.Proofs.YtgckpfeeioljeaaGreatDoor
