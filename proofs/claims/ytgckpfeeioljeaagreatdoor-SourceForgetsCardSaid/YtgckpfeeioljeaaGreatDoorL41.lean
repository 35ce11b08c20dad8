/- slices.Contains at texts; what stands as SourceForgets compares rows (the walks). -/
import Derived.Test.YtgckpfeeioljeaaGreatDoorProg
import Derived.Test.YtgckpfeeioljeaaGreatDoorL40
import Derived.Test.YtgckpfeeioljeaaGreatDoorL39
import Derived.Test.YtgckpfeeioljeaaGreatDoorL20
import Derived.Test.YtgckpfeeioljeaaGreatDoorI37
import Derived.Test.YtgckpfeeioljeaaGreatDoorL32
namespace Go.Proofs.YtgckpfeeioljeaaGreatDoor
open Go.RowKit Go.Shelf

/-- Texts, rising, in a slice of their own. -/
def ownsSt (w : World) (base : Nat) (v : Value) (ss : List (List UInt8)) : Prop := w.ownsRow base 9 1 v ss.length ((ss.mergeSort (fun x y => decide (x ≤ y))).map Go.Proofs.encStr)
theorem ownsSt.ext {w w' : World} {base : Nat} {v : Value} {ss : List (List UInt8)} (h : ownsSt w base v ss) (hx : ∃ x, w' = Go.Proofs.YtgckpfeeioljeaaGreatDoor.ext w x) : ownsSt w' base v ss := by
  obtain ⟨h1, h2 | ⟨g, cap, cur, hv, hb, hh, h3⟩⟩ := h
  · exact ⟨h1, .inl h2⟩
  · exact ⟨h1, .inr ⟨g, cap, cur, hv, hb, ((ext_iff.1 hx).block _ (lt_of_heap hh)).trans hh, h3⟩⟩
theorem ownsSt_shape {w : World} {base : Nat} {v : Value} {ss : List (List UInt8)} (h : ownsSt w base v ss) : ∃ q cap, v = .slice q ss.length cap := by
  obtain ⟨_, ⟨h1, h2⟩ | ⟨g, cap, cur, h1, _⟩⟩ := h
  · exact ⟨none, 0, by rw [h1, h2]⟩
  · exact ⟨some ⟨g, 0, none⟩, cap, h1⟩
set_option maxRecDepth 100000 in
theorem idxS_none (q : Option Addr) (c : Nat) (x : ByteArray) (w : World) : Calls Tryz.prog 65 #[.slice q 0 c, .string x] w fun e w' => e = .returned (.int .i64 (-1)) ∧ w' = w := by
  go_enter Tryz.func65, Tryz.ntmps65
  go_wp2
  refine wp_loop_rounds 1 ?_
  rw [rounds_succ]
  go_wp2_with fail
  go_ret
  exact ⟨rfl, rfl⟩
theorem idxS_no (q : Option Addr) (c base : Nat) (ss : List (List UInt8)) (x : ByteArray) (w : World) (h : ownsSt w base (.slice q ss.length c) ss) (hx : txt x ∉ ss) (hz : ss.length ≤ 1048576) :
    Calls Tryz.prog 65 #[.slice q ss.length c, .string x] w fun e w' => (∃ z : Int, e = .returned (.int .i64 z) ∧ z < 0) ∧ w' = w := by
  obtain ⟨h1, ⟨h2, h3⟩ | ⟨g, cap, cur, hv, hb, hh, hle, _, hsz, htk⟩⟩ := h
  · injection h2 with h2 h4 h5
    subst h2 h5
    rw [h3]
    exact (idxS_none _ _ x w).mono fun e w' ⟨h1, h2⟩ => ⟨⟨-1, h1, by decide⟩, h2⟩
  · injection hv with hv _ hc
    subst hv hc
    have hl : (ss.mergeSort (fun x y => decide (x ≤ y))).length = ss.length := (List.mergeSort_perm _ _).length_eq
    refine (Tryz.slices_Index_string g 0 ss.length c ((ss.mergeSort (fun x y => decide (x ≤ y))).map fun l => (⟨l.toArray⟩ : ByteArray)) x w (by simp [hl]) (by omega) (fun j hj => ?_)).mono fun e w' ⟨h1, h2⟩ => ⟨⟨_, h1, ?_⟩, h2⟩
    · rw [List.length_map] at hj
      have h5 : (cur.toList.take (ss.length * 1))[j]? = ((ss.mergeSort (fun x y => decide (x ≤ y))).map Go.Proofs.encStr)[j]? := by rw [htk]
      rw [List.getElem?_take_of_lt (by omega), List.getElem?_map, List.getElem?_eq_getElem hj, Array.getElem?_toList] at h5
      rw [cell_in, hh, Nat.zero_add]
      simp [cellIn, h5, List.getD_eq_getElem?_getD, List.getElem?_map, List.getElem?_eq_getElem hj]
    · rw [List.take_of_length_le (by simp [hl])]
      have h6 := mt (Lib.idxOfS_nonneg_iff ((ss.mergeSort (fun x y => decide (x ≤ y))).map fun l => (⟨l.toArray⟩ : ByteArray)) x).1 (fun hm => ?_)
      · omega
      · obtain ⟨l, hl2, rfl⟩ := List.mem_map.1 hm
        exact hx ((List.mergeSort_perm _ _).mem_iff.1 hl2)
set_option maxRecDepth 100000 in
theorem containsS_no (q : Option Addr) (c base : Nat) (ss : List (List UInt8)) (x : ByteArray) (w : World) (h : ownsSt w base (.slice q ss.length c) ss) (hx : txt x ∉ ss) (hz : ss.length ≤ 1048576) :
    Calls Tryz.prog 35 #[.slice q ss.length c, .string x] w fun e w' => e = .returned (.bool false) ∧ ∃ y, w' = ext w y := by
  have IX := idxS_no q c base ss x w h hx hz
  clear h
  go_enter Tryz.func35, Tryz.ntmps35
  go_wp2_with fail
  refine IX.mono ?_
  rintro _ w5 ⟨⟨z, rfl, hz0⟩, rfl⟩
  have hd : decide (z ≥ 0) = false := decide_eq_false (by omega)
  clear IX
  go_wp2_with fail
  go_ret
  exact ⟨rfl, ext_refl _⟩
/-! ### Rows that are compared -/
/-- What stands, and when. -/
structure sfC (W : World) (l1 l8 l10 l11 l12 l13 l16 : Bool) (va vc vd vs : Value) (A B D : List Cell) (P : List (List UInt8) → Prop) (w : World) : Prop where
  below : Below W.heap.size W w
  a_ : l1 = true → ownsCl w W.heap.size va A
  c_ : l8 = true → l10 = false → ownsCl w W.heap.size vc B ∧ (l1 = true → ∀ b, vc.ownBlock = some b → va.ownBlock ≠ some b)
  d_ : l10 = true → ownsCl w W.heap.size vd D
  k_ : l11 = true ∨ l12 = true ∨ l13 = true ∨ l16 = true → l10 = true
  s_ : l16 = true → ∃ ss, P ss ∧ ss.length ≤ 1048576 ∧ ownsSt w W.heap.size vs ss
theorem ownsCl_dn {w : World} {base b : Nat} {v : Value} {l : List Cell} (h : ownsCl w base v l) (hb : b ≤ base) : ownsCl w b v l := by
  obtain ⟨h1, h2 | ⟨g, cap, cur, hv, hb', h3⟩⟩ := h
  · exact ⟨h1, .inl h2⟩
  · exact ⟨h1, .inr ⟨g, cap, cur, hv, Nat.le_trans hb hb', h3⟩⟩
theorem ownsSt_dn {w : World} {base b : Nat} {v : Value} {l : List (List UInt8)} (h : ownsSt w base v l) (hb : b ≤ base) : ownsSt w b v l := by
  obtain ⟨h1, h2 | ⟨g, cap, cur, hv, hb', h3⟩⟩ := h
  · exact ⟨h1, .inl h2⟩
  · exact ⟨h1, .inr ⟨g, cap, cur, hv, Nat.le_trans hb hb', h3⟩⟩
section
variable {W w w' : World} {l1 l8 l10 l11 l12 l13 l16 : Bool} {va vc vd vs v : Value} {A B D : List Cell} {P : List (List UInt8) → Prop}
theorem sfC.start : sfC W false false false false false false false va vc vd vs A B D P { W with drawn := W.drawn + 1 } :=
  ⟨(Below.refl _ _).drew, (fun h => by cases h), (fun h => by cases h), (fun h => by cases h), (fun h => by rcases h with h | h | h | h <;> cases h), (fun h => by cases h)⟩
theorem sfC.ext (h : sfC W l1 l8 l10 l11 l12 l13 l16 va vc vd vs A B D P w) (hx : ∃ x, w' = Go.Proofs.YtgckpfeeioljeaaGreatDoor.ext w x) : sfC W l1 l8 l10 l11 l12 l13 l16 va vc vd vs A B D P w' := by
  have hb := ext_iff.1 hx
  have hg := grown_below hb none
  refine ⟨h.below.trans (hb.mono h.below.size), fun e => (h.a_ e).kept hg (by simp), fun e1 e2 => ⟨(h.c_ e1 e2).1.kept hg (by simp), (h.c_ e1 e2).2⟩, fun e => (h.d_ e).kept hg (by simp), h.k_, fun e => ?_⟩
  obtain ⟨ss, h1, h2, h3⟩ := h.s_ e
  exact ⟨ss, h1, h2, h3.ext hx⟩
theorem sfC.cells (h : sfC W l1 l8 l10 l11 l12 l13 l16 va vc vd vs A B D P w) (hb : Below w.heap.size w w') (ho : ownsCl w' w.heap.size v A) : sfC W true l8 l10 l11 l12 l13 l16 v vc vd vs A B D P w' := by
  have h' := h.ext (ext_of hb)
  refine ⟨h'.below, fun _ => ownsCl_dn ho h.below.size, fun e1 e2 => ⟨(h'.c_ e1 e2).1, fun _ b hb1 hb2 => ?_⟩, h'.d_, h'.k_, h'.s_⟩
  have g1 := ((h.c_ e1 e2).1.base hb1).2
  have g2 := (ho.base hb2).1
  omega
theorem sfC.clone (h : sfC W l1 l8 l10 l11 l12 l13 l16 va vc vd vs A B D P w) (hb : Below w.heap.size w w') (ho : ownsCl w' w.heap.size v B) : sfC W l1 true l10 l11 l12 l13 l16 va v vd vs A B D P w' := by
  have h' := h.ext (ext_of hb)
  refine ⟨h'.below, h'.a_, fun _ _ => ⟨ownsCl_dn ho h.below.size, fun e b hb1 hb2 => ?_⟩, h'.d_, h'.k_, h'.s_⟩
  have g1 := ((h.a_ e).base hb2).2
  have g2 := (ho.base hb1).1
  omega
theorem sfC.del (h : sfC W l1 l8 l10 l11 l12 l13 l16 va vc vd vs A B D P w) (h8 : l8 = true) (h10 : l10 = false) (hg : w.grownBy w' vc.ownBlock) (ho : ownsCl w' W.heap.size v D) : sfC W l1 l8 true l11 l12 l13 l16 va vc v vs A B D P w' := by
  obtain ⟨c1, c2⟩ := h.c_ h8 h10
  have hn : l16 = false := by
    cases hh : l16 with
    | false => rfl
    | true => have := h.k_ (by rw [hh]; simp); rw [h10] at this; cases this
  refine ⟨h.below.grown hg h.below.size (fun j e => (c1.base e).1), fun e => ?_, (fun _ e => by cases e), fun _ => ho, fun _ => rfl, fun e => by rw [hn] at e; cases e⟩
  refine (h.a_ e).kept hg (fun b hb e2 => ?_)
  exact c2 e b e2.symm hb
theorem sfC.subj (h : sfC W l1 l8 l10 l11 l12 l13 l16 va vc vd vs A B D P w) (hb : Below w.heap.size w w') (h10 : l10 = true) {ss : List (List UInt8)} (h1 : P ss) (h2 : ss.length ≤ 1048576) (h3 : ownsSt w' w.heap.size v ss) : sfC W l1 l8 l10 l11 l12 l13 true va vc vd v A B D P w' := by
  have h' := h.ext (ext_of hb)
  exact ⟨h'.below, h'.a_, h'.c_, h'.d_, fun _ => h10, fun _ => ⟨ss, h1, h2, ownsSt_dn h3 h.below.size⟩⟩
theorem sfC.k11 (h : sfC W l1 l8 l10 l11 l12 l13 l16 va vc vd vs A B D P w) (h10 : l10 = true) : sfC W l1 l8 l10 true l12 l13 l16 va vc vd vs A B D P w := ⟨h.below, h.a_, h.c_, h.d_, fun _ => h10, h.s_⟩
theorem sfC.k12 (h : sfC W l1 l8 l10 l11 l12 l13 l16 va vc vd vs A B D P w) (h11 : l11 = true) : sfC W l1 l8 l10 l11 true l13 l16 va vc vd vs A B D P w := ⟨h.below, h.a_, h.c_, h.d_, fun _ => h.k_ (.inl h11), h.s_⟩
theorem sfC.k13 (h : sfC W l1 l8 l10 l11 l12 l13 l16 va vc vd vs A B D P w) (h12 : l12 = true) : sfC W l1 l8 l10 l11 l12 true l16 va vc vd vs A B D P w := ⟨h.below, h.a_, h.c_, h.d_, fun _ => h.k_ (.inr (.inl h12)), h.s_⟩
end
end Go.Proofs.YtgckpfeeioljeaaGreatDoor
