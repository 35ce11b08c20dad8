/- feed.Whole at records that follow each other (the walks). -/
import Derived.Test.YtgckpfeeioljeaaGreatDoorProg
import Derived.Test.YtgckpfeeioljeaaGreatDoorG29
import Derived.Test.YtgckpfeeioljeaaGreatDoorG20
import Derived.Test.YtgckpfeeioljeaaGreatDoorInv
import Derived.Test.YtgckpfeeioljeaaGreatDoorG30
namespace Go.Proofs.YtgckpfeeioljeaaGreatDoor
open Go.RowKit Go.Shelf

/-- What the closure writes: the number, the mark. -/
def wh2 (W : World) (fb pb : Nat) (n : Int) (p m : ByteArray) (l0 l1 l4 l5 : Bool) (w : World) : Prop :=
  (l1 = true → l0 = true) ∧ (l4 = true → l0 = true) ∧ step W w (fun i => i = fb ∨ i = pb) (fun i => i = fb ∨ i = pb) ∧ w.heap[fb]? = some (.cells #[.int .i64 (if l4 = true then n + 1 else n)] 3 (0, 0)) ∧ w.heap[pb]? = some (.cells #[.string (if l5 = true then m else p)] 9 (0, 0))
section
variable {W w w' : World} {fb pb : Nat} {n : Int} {p m : ByteArray} {y0 y1 y4 y5 : Bool}
theorem wh2.start (h1 : W.heap[fb]? = some (.cells #[.int .i64 n] 3 (0, 0))) (h2 : W.heap[pb]? = some (.cells #[.string p] 9 (0, 0))) : wh2 W fb pb n p m false false false false { W with drawn := W.drawn + 1 } :=
  ⟨(fun h => by cases h), (fun h => by cases h), ⟨rfl, rfl, rfl, Nat.le_refl _, fun _ _ _ => rfl, fun _ h => .inl h⟩, h1, h2⟩
theorem wh2.ext (h : wh2 W fb pb n p m y0 y1 y4 y5 w) (hx : ∃ x, w' = Go.Proofs.YtgckpfeeioljeaaGreatDoor.ext w x) : wh2 W fb pb n p m y0 y1 y4 y5 w' := by
  obtain ⟨a, b, c, d, e⟩ := h
  have hb := ext_iff.1 hx
  exact ⟨a, b, c.trans (.of_ext _ hx), (hb.block _ (lt_of_heap d)).trans d, (hb.block _ (lt_of_heap e)).trans e⟩
theorem wh2.l0 (h : wh2 W fb pb n p m y0 y1 y4 y5 w) : wh2 W fb pb n p m true y1 y4 y5 w := ⟨fun _ => rfl, fun _ => rfl, h.2.2⟩
theorem wh2.l1 (h : wh2 W fb pb n p m y0 y1 y4 y5 w) (h0 : y0 = true) : wh2 W fb pb n p m y0 true y4 y5 w := ⟨fun _ => h0, h.2.1, h.2.2⟩
theorem wh2.put4 (h : wh2 W fb pb n p m y0 y1 y4 y5 w) (hne : fb ≠ pb) (h1 : y1 = true) : wh2 W fb pb n p m y0 y1 true y5 (w.setCell ⟨fb, 0, none⟩ (.int .i64 (n + 1))) := by
  obtain ⟨a, b, c, d, e⟩ := h
  refine ⟨a, fun _ => a h1, c.trans (.of_grown (grown_setCell _ _ _ _) (fun j hj => by cases hj; exact .inl rfl)), heap_setCell d _, ?_⟩
  exact ((grown_setCell w fb 0 _).block pb (lt_of_heap e) (by intro h; cases h; exact hne rfl)).trans e
theorem wh2.put5 (h : wh2 W fb pb n p m y0 y1 y4 y5 w) (hne : fb ≠ pb) : wh2 W fb pb n p m y0 y1 y4 true (w.setCell ⟨pb, 0, none⟩ (.string m)) := by
  obtain ⟨a, b, c, d, e⟩ := h
  refine ⟨a, b, c.trans (.of_grown (grown_setCell _ _ _ _) (fun j hj => by cases hj; exact .inr rfl)), ?_, heap_setCell e _⟩
  exact ((grown_setCell w pb 0 _).block fb (lt_of_heap d) (by intro h; cases h; exact hne rfl)).trans d
end
theorem rounds_step {w w' : World} {F F' : Blk} (h : Rounds w) (g : step w w' F F') (hn : ¬ F 2) : Rounds w' := by
  obtain ⟨b, z, _⟩ := g.keep h.1 hn
  refine ⟨z, fun i hi => ?_⟩
  have := h.2 i hi
  rw [cell_in] at this ⊢
  rw [b]; exact this
def frFbW (q : Int) (s : ByteArray) (g0 : Int) (p : ByteArray) (b : ByteArray) (fb : Nat) (pb : Nat) (eb : Nat) (g : Nat → Value) : Act := { tmps := #[.agg #[.int .i64 q, .string s, .int .i64 g0, .string p, .string b], .pointer (some ⟨fb, 0, none⟩), .pointer (some ⟨pb, 0, none⟩), .pointer (some ⟨eb, 0, none⟩), .bool false, .bool true, .pointer (some ⟨eb, 0, none⟩), .int .i64 q, .int .i64 q, .bool true, .bool true, .pointer (some ⟨eb, 3, none⟩), .string p, .string p, .bool true, .bool true, g 16, g 17, g 18, g 19, undef, undef], defers := [] }
def dstFbW (i : Nat) : Nat := ([16, 17, 18, 19, 1004, 1005] : List Nat).getD i (2000 + i)
def laysFbW (q : Int) (s : ByteArray) (g0 : Int) (p : ByteArray) (b : ByteArray) (mk : ByteArray) (j : Nat) (v : Value) (_ : World) : Prop :=
  match j with
  | 0 => v = .int .i64 q
  | 1 => v = .int .i64 (q + 1)
  | 2 => v = .agg #[.int .i64 q, .string s, .int .i64 g0, .string p, .string b]
  | 3 => v = .string mk
  | _ => True
set_option maxRecDepth 100000 in
set_option maxHeartbeats 2000000 in
/-- The closure, at a record that follows. -/
theorem wh1_any (x : Rec) (fb pb : Nat) (w : World) (hs : x.subject.size + x.prev.size + x.body.size ≤ 1048576) (hR : Rounds w) (hoff : 2 ≠ fb ∧ 2 ≠ pb) (h1 : w.heap[fb]? = some (.cells #[.int .i64 x.seq] 3 (0, 0))) (h2 : w.heap[pb]? = some (.cells #[.string x.prev] 9 (0, 0))) (hne : fb ≠ pb) (hq : 0 ≤ x.seq) (hq2 : x.seq ≤ 100000) :
    Calls Tryz.prog 62 #[.agg (recV x), .pointer (some ⟨fb, 0, none⟩), .pointer (some ⟨pb, 0, none⟩)] w fun r w' => r = .returned (.bool false) ∧ step w w' (fun i => i = fb ∨ i = pb) (fun i => i = fb ∨ i = pb) ∧
      w'.heap[fb]? = some (.cells #[.int .i64 (x.seq + 1)] 3 (0, 0)) ∧ w'.heap[pb]? = some (.cells #[.string (mkS (mkB x))] 9 (0, 0)) := by
  have MK : Hid (∀ W, Rounds W → Calls Tryz.prog 43 #[.agg (recV x)] W fun e w' => e = .returned (.string (mkS (mkB x))) ∧ ∃ y, w' = ext W y) := Lib.hid (fun W h => fmark_any x W (by omega) h)
  obtain ⟨q, s, g0, p, b⟩ := x
  unfold recV at MK ⊢
  dsimp only at MK h1 h2 hq hq2 ⊢
  have X1 := ext_alloc (.cells #[.int .i64 q, .string s, .int .i64 g0, .string p, .string b] 55) (ext_refl w)
  have b1 := ext_iff.1 X1
  have HE := Lib.hid (heap_alloc_at w (.cells #[.int .i64 q, .string s, .int .i64 g0, .string p, .string b] 55))
  have H1 := Lib.hid ((b1.block _ (lt_of_heap h1)).trans h1)
  have H2 := Lib.hid ((b1.block _ (lt_of_heap h2)).trans h2)
  have R1 := Lib.hid (Rounds_ext hR X1)
  have NE := Lib.hid hne
  have OFF := Lib.hid hoff
  have EF := Lib.hid (show w.heap.size ≠ fb ∧ w.heap.size ≠ pb from by have := lt_of_heap h1; have := lt_of_heap h2; omega)
  have ST := Lib.hid (step.of_ext (fun i => i = fb ∨ i = pb) X1)
  clear h1 h2 hR b1 X1 hne hoff hs
  obtain ⟨c0, c1, c2, c3, c4⟩ := rec_cells (r := ⟨q, s, g0, p, b⟩) HE.out
  dsimp only at c0 c1 c2 c3 c4
  have le := lt_of_heap HE.out
  have l1 := lt_of_heap H1.out
  have l2 := lt_of_heap H2.out
  have z1 : (w.alloc (.cells #[.int .i64 q, .string s, .int .i64 g0, .string p, .string b] 55)).cell? ⟨fb, 0, none⟩ = some (.int .i64 q) := by rw [cell_in, H1.out]; rfl
  have z2 : (w.alloc (.cells #[.int .i64 q, .string s, .int .i64 g0, .string p, .string b] 55)).cell? ⟨pb, 0, none⟩ = some (.string p) := by rw [cell_in, H2.out]; rfl
  go_enter Tryz.func62, Tryz.ntmps62
  go_wp2_with fail
  generalize (w.alloc (.cells #[.int .i64 q, .string s, .int .i64 g0, .string p, .string b] 55)) = wa at HE H1 H2 R1 ST c0 c1 c2 c3 c4 le l1 l2 z1 z2 ⊢
  generalize w.heap.size = eb at HE EF c0 c1 c2 c3 c4 le ⊢
  refine wp_region_slots (frFbW q s g0 p b fb pb eb) dstFbW (fun _ => undef) (laysFbW q s g0 p b (mkS (mkB ⟨q, s, g0, p, b⟩))) (fun L g w => wh2 wa fb pb q p (mkS (mkB ⟨q, s, g0, p, b⟩)) (L 0) (L 1) (L 4) (L 5) w) (fun w w' => True) (by kernel_rfl) (by kernel_rfl) rfl ?_ (by kernel_rfl) (wh2.start H1.out H2.out) ?_ ?_
  · exact fun _ _ _ _ _ h => h
  · refine ⟨?_, ?_, ?_, ?_, ?_, ?_, trivial⟩
    all_goals (intro L gs w1 hLi hdeps hR hC; refine ends_of fun Q hQ => ?_)
    · have HQ := fun (a' : Act) (va : Value) (w' : World) (h1 : a' = frFbW q s g0 p b fb pb eb (upd1 gs 16 va)) h2 (h3 : laysFbW q s g0 p b (mkS (mkB ⟨q, s, g0, p, b⟩)) 0 va w') h4 => hQ.out a' w' ⟨va, h1, h2, h3, h4⟩
      have n4 : L 4 = false := by
        cases h : L 4 with
        | false => rfl
        | true => have := hC.2.1 h; rw [show L 0 = false from hLi] at this; cases this
      have d := hC.2.2.2.1
      rw [n4, if_neg (by simp)] at d
      have k1 : w1.cell? ⟨fb, 0, none⟩ = some (.int .i64 q) := by rw [cell_in, d]; rfl
      have lw1 := lt_of_heap d
      unfold frFbW
      go_wp2_with fail
      exact HQ _ (.int .i64 q) _ (by simp only [frFbW, upd1, Nat.reduceEqDiff, reduceIte]) trivial rfl hC.l0
    · have HQ := fun (a' : Act) (va : Value) (w' : World) (h1 : a' = frFbW q s g0 p b fb pb eb (upd1 gs 17 va)) h2 (h3 : laysFbW q s g0 p b (mkS (mkB ⟨q, s, g0, p, b⟩)) 1 va w') h4 => hQ.out a' w' ⟨va, h1, h2, h3, h4⟩
      have r0 : gs 16 = .int .i64 q := hR 0 (hdeps ⟨0, .data⟩ (by simp) rfl)
      unfold frFbW
      go_wp2_with fail
      exact HQ _ (.int .i64 (q + 1)) _ (by simp only [frFbW, upd1, r0, Nat.reduceEqDiff, reduceIte]) trivial rfl (hC.l1 (hdeps ⟨0, .data⟩ (by simp) rfl))
    · have HQ := fun (a' : Act) (va : Value) (w' : World) (h1 : a' = frFbW q s g0 p b fb pb eb (upd1 gs 18 va)) h2 (h3 : laysFbW q s g0 p b (mkS (mkB ⟨q, s, g0, p, b⟩)) 2 va w') h4 => hQ.out a' w' ⟨va, h1, h2, h3, h4⟩
      have hb := (hC.2.2.1.block eb (lt_of_heap HE.out) (by rintro (h | h); exact EF.out.1 h; exact EF.out.2 h)).trans HE.out
      obtain ⟨c0, c1, c2, c3, c4⟩ := rec_cells (r := ⟨q, s, g0, p, b⟩) hb
      dsimp only at c0 c1 c2 c3 c4
      have lw1 := lt_of_heap hb
      unfold frFbW
      go_wp2_with fail
      exact HQ _ (.agg #[.int .i64 q, .string s, .int .i64 g0, .string p, .string b]) _ (by simp only [frFbW, upd1, Nat.reduceEqDiff, reduceIte]) trivial rfl hC
    · have HQ := fun (a' : Act) (va : Value) (w' : World) (h1 : a' = frFbW q s g0 p b fb pb eb (upd1 gs 19 va)) h2 (h3 : laysFbW q s g0 p b (mkS (mkB ⟨q, s, g0, p, b⟩)) 3 va w') h4 => hQ.out a' w' ⟨va, h1, h2, h3, h4⟩
      have r2 : gs 18 = .agg #[.int .i64 q, .string s, .int .i64 g0, .string p, .string b] := hR 2 (hdeps ⟨2, .data⟩ (by simp) rfl)
      unfold frFbW
      go_wp2_with fail
      refine (MK.out w1 (rounds_step R1.out hC.2.2.1 (by rintro (h | h); exact OFF.out.1 h; exact OFF.out.2 h))).mono ?_
      rintro _ w5 ⟨rfl, hx⟩
      go_wp2_with fail
      exact HQ _ (.string (mkS (mkB ⟨q, s, g0, p, b⟩))) _ (by simp only [frFbW, upd1, r2, Nat.reduceEqDiff, reduceIte]) trivial rfl (hC.ext hx)
    · have HQ := fun (a' : Act) (va : Value) (w' : World) (h1 : a' = frFbW q s g0 p b fb pb eb (upd1 gs 1004 va)) h2 (h3 : laysFbW q s g0 p b (mkS (mkB ⟨q, s, g0, p, b⟩)) 4 va w') h4 => hQ.out a' w' ⟨va, h1, h2, h3, h4⟩
      have r1 : gs 17 = .int .i64 (q + 1) := hR 1 (hdeps ⟨1, .data⟩ (by simp) rfl)
      have d := hC.2.2.2.1
      generalize (if L 4 = true then q + 1 else q) = zz at d
      have k1 : w1.cell? ⟨fb, 0, none⟩ = some (.int .i64 zz) := by rw [cell_in, d]; rfl
      have lw1 := lt_of_heap d
      have ff := free_of_heap d
      unfold frFbW
      go_wp2_with fail
      exact HQ _ undef _ (by simp only [frFbW, upd1, r1, Nat.reduceEqDiff, reduceIte]) trivial trivial (hC.put4 NE.out (hdeps ⟨1, .data⟩ (by simp) rfl))
    · have HQ := fun (a' : Act) (va : Value) (w' : World) (h1 : a' = frFbW q s g0 p b fb pb eb (upd1 gs 1005 va)) h2 (h3 : laysFbW q s g0 p b (mkS (mkB ⟨q, s, g0, p, b⟩)) 5 va w') h4 => hQ.out a' w' ⟨va, h1, h2, h3, h4⟩
      have r3 : gs 19 = .string (mkS (mkB ⟨q, s, g0, p, b⟩)) := hR 3 (hdeps ⟨3, .data⟩ (by simp) rfl)
      have d := hC.2.2.2.2
      generalize (if L 5 = true then mkS (mkB ⟨q, s, g0, p, b⟩) else p) = zz at d
      have k1 : w1.cell? ⟨pb, 0, none⟩ = some (.string zz) := by rw [cell_in, d]; rfl
      have lw1 := lt_of_heap d
      have ff := free_of_heap d
      unfold frFbW
      go_wp2_with fail
      exact HQ _ undef _ (by simp only [frFbW, upd1, r3, Nat.reduceEqDiff, reduceIte]) trivial trivial (hC.put5 NE.out)
  intro L2 g2 w2 hall hR hC
  have HC := hC
  rw [hall 4 (by decide), hall 5 (by decide)] at HC
  obtain ⟨_, _, hs, hf, hp⟩ := HC
  rw [if_pos rfl] at hf hp
  have HF := Lib.hid hf
  have HPP := Lib.hid hp
  have HS := Lib.hid hs
  clear hC hall hR hs hf hp
  unfold frFbW
  go_wp2_with fail
  go_ret
  exact ⟨rfl, (ST.out.trans HS.out), HF.out, HPP.out⟩
/-- What stands as the records are looked at: k of them. -/
structure whIn (w0 w : World) (fb pb k : Nat) (L : List Rec) : Prop where
  below : Below w0.heap.size w0 w
  f_ : w.heap[fb]? = some (.cells #[.int .i64 ((k : Int) + 1)] 3 (0, 0))
  p_ : w.heap[pb]? = some (.cells #[.string (headR (L.take k))] 9 (0, 0))
theorem Rounds_below {w0 w : World} (h : Rounds w0) (hb : Below w0.heap.size w0 w) : Rounds w := Rounds_of h (fun _ hk => hb.block _ hk) hb.size
set_option maxRecDepth 100000 in
set_option maxHeartbeats 4000000 in
/-- IndexFunc, at records that follow each other: all do. -/
theorem idxR_whole {sec : ByteArray} {R : RunM} (HR : Runs sec R) (hz : R.ok.length ≤ 1000) (q : Option Addr) (cp : Nat) (w0 w : World) (fb pb : Nat) (hr : recsAt w0 q R.S.L) (hR : Rounds w0) (hf : w0.heap.size ≤ fb) (hp : w0.heap.size ≤ pb) (hne : fb ≠ pb) (h : whIn w0 w fb pb 0 R.S.L) :
    Calls Tryz.prog 61 #[.slice q R.S.L.length cp, .func (.func 62) #[] #[.pointer (some ⟨fb, 0, none⟩), .pointer (some ⟨pb, 0, none⟩)]] w fun r w' => r = .returned (.int .i64 (-1)) ∧ Below w0.heap.size w0 w' := by
  have HRU := Lib.hid HR
  have RR := Lib.hid hr
  have RO := Lib.hid hR
  have WI := Lib.hid h
  have HLE := Lib.hid HR.inv.len
  have hL : R.S.L.length ≤ 1000 := by rw [HLE.out]; exact hz
  have HF := Lib.hid hf
  have HP := Lib.hid hp
  have NE := Lib.hid hne
  clear HR hr hR h hf hp hne hz
  go_enter Tryz.func61, Tryz.ntmps61
  go_wp2_with fail
  go_loopw [8] (fun iv wr => ∃ k : Nat, k ≤ R.S.L.length ∧ iv = .int .i64 k ∧ Hid (whIn w0 wr fb pb k R.S.L)) (fun iv _ => R.S.L.length - (intOf iv).toNat)
  case atStart => exact ⟨0, Nat.zero_le _, rfl, WI⟩
  case round =>
    clear WI
    obtain ⟨k, hk, rfl, WI⟩ := hrel
    by_cases hlt : k < R.S.L.length
    · have hlt' : (k : Int) < R.S.L.length := by omega
      have hx := List.getElem?_eq_getElem hlt
      have he := List.getElem?_eq_getElem (show k < R.ok.length by rw [← HLE.out]; exact hlt)
      obtain ⟨t1, t2, t3, t4, _⟩ := HRU.out.inv.told k _ _ hx he
      have hs := t1.small
      have hb := WI.out.below
      obtain ⟨g, o, rfl, e0, e1, e2, e3, e4, hg⟩ := recsAt_row (recsAt_of RR.out (fun k hk => hb.block k hk) hb.size) hx
      have HH := Lib.hid (show headR (R.S.L.take (k + 1)) = mkS (mkB R.S.L[k]) from by rw [List.take_add_one, hx, Option.toList_some, headR_snoc])
      have ro := Rounds_below RO.out hb
      have hro := RO.out.1
      have hf := WI.out.f_
      have hp := WI.out.p_
      rw [← t2] at hf
      rw [← t3] at hp
      have CL := wh1_any R.S.L[k] fb pb wr (by omega) ro ⟨by have := HF.out; omega, by have := HP.out; omega⟩ hf hp NE.out (by omega) (by omega)
      rw [← HH.out, t2] at CL
      clear t1 t2 t3 t4 hs hb HH ro hro hf hp
      generalize R.S.L[k] = x at hx CL e0 e1 e2 e3 e4
      clear hx he
      obtain ⟨q0, u0, g0, p0, b0⟩ := x
      unfold recV at CL
      dsimp only at CL e0 e1 e2 e3 e4
      go_wp2_with fail
      refine CL.mono ?_
      rintro _ w5 ⟨rfl, hst, hf5, hp5⟩
      have W5 := Lib.hid (show whIn w0 w5 fb pb (k + 1) R.S.L from by
        refine ⟨WI.out.below.trans ⟨hst.os, hst.tape, hst.output, hst.size, fun i hi => hst.block i (Nat.lt_of_lt_of_le hi WI.out.below.size) ?_⟩, hf5, hp5⟩
        rintro (h | h)
        · have := HF.out; omega
        · have := HP.out; omega)
      clear CL hst hf5 hp5 WI e0 e1 e2 e3 e4
      go_wp2_with fail
      go_roundw
      case rel => exact ⟨k + 1, hlt, by go_num, W5⟩
      case measure => simp [intOf]; omega
    · obtain rfl : k = R.S.L.length := by omega
      go_wp2_with fail
      go_ret
      exact ⟨rfl, WI.out.below⟩
set_option maxRecDepth 100000 in
set_option maxHeartbeats 4000000 in
theorem whole_any {sec : ByteArray} {R : RunM} (HR : Runs sec R) (hz : R.ok.length ≤ 1000) (q : Option Addr) (cp : Nat) (w : World) (hr : recsAt w q R.S.L) (hR : Rounds w) :
    Calls Tryz.prog 27 #[.slice q R.S.L.length cp, .int .i64 1, .string noneS] w fun r w' => r = .returned (.tuple #[.int .i64 0, .bool true]) ∧ ∃ x, w' = ext w x := by
  have b1 : Below w.heap.size w ((w.alloc (.cells #[.int .i64 1] 3)).alloc (.cells #[.string noneS] 9)) := ((Below.refl _ w).alloc (Nat.le_refl _) _).alloc (by simp) _
  have h1 := heap_alloc_at w (.cells #[.int .i64 1] 3)
  have h2 := heap_alloc_at (w.alloc (.cells #[.int .i64 1] 3)) (.cells #[.string noneS] 9)
  have IX := idxR_whole HR hz q cp w ((w.alloc (.cells #[.int .i64 1] 3)).alloc (.cells #[.string noneS] 9)) w.heap.size (w.alloc (.cells #[.int .i64 1] 3)).heap.size hr hR (Nat.le_refl _) (by simp) (by simp)
    ⟨b1, ((ext_iff.1 (ext_alloc _ (ext_refl (w.alloc (.cells #[.int .i64 1] 3))))).block _ (lt_of_heap h1)).trans h1, h2⟩
  rw [show (w.alloc (.cells #[.int .i64 1] 3)).heap.size = w.heap.size + 1 by simp] at IX
  clear b1 h1 h2 HR hr hR
  go_enter Tryz.func27, Tryz.ntmps27
  go_wp2_with fail
  refine IX.mono ?_
  rintro _ w5 ⟨rfl, hb⟩
  have HB := Lib.hid hb
  clear hb IX
  go_wp2_with fail
  go_ret2
  exact ⟨rfl, ext_of HB.out⟩
end Go.Proofs.YtgckpfeeioljeaaGreatDoor
