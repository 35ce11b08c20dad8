/- oubliettekeep.fed: a fact (the walk). · What is told more does not change what was told: plain. Events that are few. -/
import Derived.Test.YtgckpfeeioljeaaGreatDoorProg
import Derived.Test.YtgckpfeeioljeaaGreatDoorG28
import Derived.Test.YtgckpfeeioljeaaGreatDoorG30
import Derived.Test.YtgckpfeeioljeaaGreatDoorG33
namespace Go.Proofs.YtgckpfeeioljeaaGreatDoor
open Go.RowKit Go.Shelf

def fedP : Ev := ⟨1, ⟨#[97, 110, 110]⟩, ⟨#[116]⟩, ⟨#[114]⟩, ⟨#[118]⟩⟩
def fedG : Ev := ⟨3, ⟨#[97, 110, 110]⟩, ⟨#[]⟩, ⟨#[]⟩, ⟨#[]⟩⟩
theorem fedP_right : rightE okV fedP = true := by decide +kernel
theorem fedG_right : rightE okV fedG = true := by decide +kernel
def fedMany : ByteArray → Nat := toldMany (fun _ => 0) (fun _ => false) fedP
def fedHas : ByteArray → Bool := toldHas (fun _ => false) fedP
theorem fedP_told (sec : ByteArray) : ∃ body, toldR sec (fun _ => 0) (fun _ => false) [] fedP = ⟨1, ⟨#[97, 110, 110]⟩, 1, noneS, body⟩ ∧ body.size = 29 := by
  refine ⟨_, rfl, ?_⟩
  show (mkS (sealB _ _ _ _)).size = 29
  rw [mkS_size, sealB_length]
  rfl
theorem fed_more : tellX (fun _ => false) fedP = 0 ∧ tellX fedHas fedG = 0 ∧ fedMany fedP.subject = 1 ∧ fedHas fedP.subject = true := by
  refine ⟨?_, ?_, ?_, ?_⟩
  · unfold tellX; rw [fedP_right]; rfl
  · unfold tellX; rw [fedG_right]; rfl
  · rfl
  · rfl
set_option maxRecDepth 100000 in
set_option maxHeartbeats 4000000 in
theorem fed_any (w : World) (hG : Glob w none0) : Calls Tryz.prog 10 #[] w (Res true w) := by
  have GG := Lib.hid hG
  clear hG
  have SN := vnew_in ⟨#[48, 49, 50, 51, 52, 53, 54, 55, 56, 57, 97, 98, 99, 100, 101, 102]⟩ w rfl
  go_enter Tryz.func10, Tryz.ntmps10
  go_wp2_with fail
  refine SN.mono ?_
  rintro _ w1 ⟨vb, V, rfl, hv, hs⟩
  have V1 := Lib.hid hv
  have S1 := Lib.hid hs
  clear hv hs SN
  go_wp2_with fail
  refine (fnew_any vb w1).mono ?_
  rintro _ w2 ⟨fb, R, rfl, hf, hs2, hx⟩
  have F2 := Lib.hid hf
  have V2 := Lib.hid (V1.out.ext hx)
  have AP := Lib.hid (show apart V R from fun i h1 h2 => by have := V1.out.lt i h1; have := hs2.new h2; omega)
  have S2 := Lib.hid ((S1.out.trans (.of_ext V hx)).more (F' := fun i => V i ∨ R i) (fun i hi => by
    rcases hi with hi | hi
    · exact .inl hi
    · have h9 := hs2.new hi; have := S1.out.size; exact .inr ⟨by omega, h9.2⟩))
  clear hf hs2 hx V1 S1
  have G2 := Lib.hid (GG.out.step S2.out)
  have HD := fhead_any w2 R fb vb [] F2.out G2.out.rounds
  rw [headR_nil] at HD
  unfold noneS at HD
  go_wp2_with fail
  refine HD.mono ?_
  rintro _ w3 ⟨rfl, hx⟩
  have F3 := Lib.hid ((F2.out.ext hx).ext (ext_alloc (.cells (evV fedP) 51) (ext_refl w3)))
  have V3 := Lib.hid ((V2.out.ext hx).ext (ext_alloc (.cells (evV fedP) 51) (ext_refl w3)))
  have G3 := Lib.hid ((G2.out.ext hx).ext (ext_alloc (.cells (evV fedP) 51) (ext_refl w3)))
  have S3 := Lib.hid (S2.out.trans ((step.of_ext (fun i => V i ∨ R i) hx).trans (.alloc w3 (.cells (evV fedP) 51) _)))
  have E3 := Lib.hid (heap_alloc_at w3 (.cells (evV fedP) 51))
  have EN := Lib.hid (show ¬ (V w3.heap.size ∨ R w3.heap.size) from fun h => by have h2 := (ext_iff.1 hx).size; rcases h with h | h; have := V2.out.lt _ h; omega; have := F2.out.lt _ h; omega)
  clear hx F2 V2 G2 S2 HD
  have TL := (ftell_any fedP _ V R fb vb 0 _ _ _ [] V3.out F3.out AP.out G3.out (by decide) (by decide) (by decide) (by decide) (by decide) (by decide)).mono fun r w' h => told_all h
  rw [fed_more.1, if_pos rfl, if_pos rfl, if_pos rfl, if_pos rfl, if_pos rfl] at TL
  obtain ⟨body, hb1, hb2⟩ := fedP_told ⟨#[48, 49, 50, 51, 52, 53, 54, 55, 56, 57, 97, 98, 99, 100, 101, 102]⟩
  have IT := Lib.hid (toldR_is ⟨#[48, 49, 50, 51, 52, 53, 54, 55, 56, 57, 97, 98, 99, 100, 101, 102]⟩ (fun _ => 0) (fun _ => false) [] fedP_right (fun h => by cases h))
  rw [hb1] at TL IT
  rw [show toldMany (fun _ => 0) (fun _ => false) fedP = fedMany from rfl, show toldHas (fun _ => false) fedP = fedHas from rfl, List.nil_append] at TL
  clear hb1
  unfold recV evV fedP noneS at TL
  unfold evV fedP at E3 F3 V3 G3 S3
  dsimp only at TL E3 F3 V3 G3 S3
  have hbz : (body.size : Int) = 29 := by omega
  have HB2 := Lib.hid hb2
  clear hb2
  go_wp2_with fail
  generalize w3.alloc (.cells #[.int .i64 1, .string ⟨#[97, 110, 110]⟩, .string ⟨#[116]⟩, .string ⟨#[114]⟩, .string ⟨#[118]⟩] 51) = w4 at E3 F3 V3 G3 S3 TL ⊢
  obtain ⟨e0, e1, e2, e3, e4⟩ := ev_cells E3.out
  have le := lt_of_heap E3.out
  go_wp2_with fail
  refine TL.mono ?_
  rintro _ w5 ⟨rfl, R', hv5, hf5, hs5, hR5⟩
  have V5 := Lib.hid (hv5.ext (ext_alloc (.cells #[.int .i64 1, .string ⟨#[97, 110, 110]⟩, .int .i64 1, .string ⟨#[0, 0, 0, 0, 0, 0, 0, 0, 0, 0, 0, 0, 0, 0, 0, 0]⟩, .string body] 55) (ext_refl w5)))
  have F5 := Lib.hid (hf5.ext (ext_alloc (.cells #[.int .i64 1, .string ⟨#[97, 110, 110]⟩, .int .i64 1, .string ⟨#[0, 0, 0, 0, 0, 0, 0, 0, 0, 0, 0, 0, 0, 0, 0, 0]⟩, .string body] 55) (ext_refl w5)))
  have hst := hs5.trans (.alloc w5 (.cells #[.int .i64 1, .string ⟨#[97, 110, 110]⟩, .int .i64 1, .string ⟨#[0, 0, 0, 0, 0, 0, 0, 0, 0, 0, 0, 0, 0, 0, 0, 0]⟩, .string body] 55) _)
  have G5 := Lib.hid (G3.out.step hst)
  have S5 := Lib.hid (S3.out.trans hst)
  have E5 := Lib.hid ((hst.keep (lt_of_heap E3.out) EN.out).1.trans E3.out)
  have AP5 := Lib.hid (show apart V R' from fun i h1 h2 => (hR5 i h2).elim (AP.out i h1) (fun h => by have := V3.out.lt i h1; omega))
  have P5 := Lib.hid (heap_alloc_at w5 (.cells #[.int .i64 1, .string ⟨#[97, 110, 110]⟩, .int .i64 1, .string ⟨#[0, 0, 0, 0, 0, 0, 0, 0, 0, 0, 0, 0, 0, 0, 0, 0]⟩, .string body] 55))
  have PN := Lib.hid (show ¬ (V w5.heap.size ∨ R' w5.heap.size) from fun h => by rcases h with h | h; exact Nat.lt_irrefl _ (hv5.lt _ h); exact Nat.lt_irrefl _ (hf5.lt _ h))
  have EN5 := Lib.hid (hst.keep (lt_of_heap E3.out) EN.out).2.2
  have hl5 : w3.heap.size < w5.heap.size := Nat.lt_of_lt_of_le (lt_of_heap E3.out) hs5.size
  have ce := ev_cells (((hs5.keep (lt_of_heap E3.out) EN.out).1).trans E3.out)
  clear hv5 hf5 hs5 hR5 hst TL e0 e1 e2 e3 e4 le E3 F3 V3 G3 S3 AP EN
  obtain ⟨e0, e1, e2, e3, e4⟩ := ce
  go_wp2_with fail
  generalize w5.alloc (.cells #[.int .i64 1, .string ⟨#[97, 110, 110]⟩, .int .i64 1, .string ⟨#[0, 0, 0, 0, 0, 0, 0, 0, 0, 0, 0, 0, 0, 0, 0, 0]⟩, .string body] 55) = w6 at V5 F5 G5 S5 E5 P5 ⊢
  have LST : lostR fedMany fedHas ⟨1, ⟨#[97, 110, 110]⟩, 1, noneS, body⟩ = false := rfl
  have OP := fopen_any fedP _ w6 V vb 2 _ _ _ V5.out (G5.out.sub (fun i h => .inl h)) IT.out (show (1 : Int) ≤ ((1 : Nat) : Int) by decide)
  unfold OpenPost openV at OP
  rw [LST, if_neg (by simp), if_neg (by simp)] at OP
  clear LST
  unfold recV evV fedP noneS at OP
  dsimp only at OP
  refine OP.mono ?_
  rintro _ w7 ⟨rfl, hx⟩
  have h87 := (ext_iff.1 hx)
  have V7 := Lib.hid ((V5.out.ext hx).ext (ext_alloc (.cells #[.int .i64 1, .string ⟨#[97, 110, 110]⟩, .string ⟨#[116]⟩, .string ⟨#[114]⟩, .string ⟨#[118]⟩] 51) (ext_refl w7)))
  have F7 := Lib.hid ((F5.out.ext hx).ext (ext_alloc (.cells #[.int .i64 1, .string ⟨#[97, 110, 110]⟩, .string ⟨#[116]⟩, .string ⟨#[114]⟩, .string ⟨#[118]⟩] 51) (ext_refl w7)))
  have hst := (step.of_ext (fun i => V i ∨ R' i) hx).trans (.alloc w7 (.cells #[.int .i64 1, .string ⟨#[97, 110, 110]⟩, .string ⟨#[116]⟩, .string ⟨#[114]⟩, .string ⟨#[118]⟩] 51) _)
  have G7 := Lib.hid (G5.out.step hst)
  have S7 := Lib.hid (S5.out.trans hst)
  have P7 := Lib.hid ((hst.keep (lt_of_heap P5.out) PN.out).1.trans P5.out)
  have ce := ev_cells ((h87.block _ (lt_of_heap E5.out)).trans E5.out)
  have le7 : w3.heap.size < w7.heap.size := Nat.lt_of_lt_of_le (lt_of_heap E5.out) h87.size
  clear hx h87 hst V5 F5 G5 S5 P5 E5 OP e0 e1 e2 e3 e4
  obtain ⟨e0, e1, e2, e3, e4⟩ := ce
  have TL := (ftell_any fedG _ V R' fb vb 2 _ fedMany fedHas _ V7.out F7.out AP5.out G7.out (by decide) (by decide) (by decide) (by decide) (by decide) (by show 1 < 100; decide)).mono fun r w' h => told_all h
  rw [fed_more.2.1, if_pos rfl, if_pos rfl, if_pos rfl, if_pos rfl, if_pos rfl] at TL
  generalize toldR _ fedMany fedHas _ fedG = r2 at TL
  obtain ⟨q2, u2, g2, p2, b2⟩ := r2
  have hm2 : toldMany fedMany fedHas fedG = fedMany := rfl
  rw [hm2] at TL
  clear hm2
  have HLST : Hid (lostR fedMany (toldHas fedHas fedG) ⟨1, ⟨#[97, 110, 110]⟩, 1, noneS, body⟩ = true) := Lib.hid rfl
  generalize toldHas fedHas fedG = has3 at TL HLST
  unfold recV evV fedG at TL
  dsimp only at TL
  go_wp2_with fail
  refine TL.mono ?_
  rintro _ w8 ⟨rfl, R3, hv8, hf8, hs8, hR8⟩
  have hst := hs8.trans (.alloc w8 (.cells #[.int .i64 q2, .string u2, .int .i64 g2, .string p2, .string b2] 55) _)
  have V8 := Lib.hid (hv8.ext (ext_alloc (.cells #[.int .i64 q2, .string u2, .int .i64 g2, .string p2, .string b2] 55) (ext_refl w8)))
  have G8 := Lib.hid (G7.out.step hst)
  have S8 := Lib.hid (S7.out.trans hst)
  have hk8 := hs8.keep (lt_of_heap P7.out) (by
    intro h
    rcases h with h | h
    · exact PN.out (.inl h)
    · exact PN.out (.inr h))
  have cp := rec_cells (r := ⟨1, ⟨#[97, 110, 110]⟩, 1, noneS, body⟩) (hk8.1.trans P7.out)
  have lp8 : w5.heap.size < w8.heap.size := hk8.2.1
  clear hst hv8 hf8 hs8 hR8 hk8 TL V7 F7 G7 S7 P7 e0 e1 e2 e3 e4 le7
  obtain ⟨p0', p1', p2', p3', p4'⟩ := cp
  unfold noneS at p3'
  dsimp only at p0' p1' p2' p3' p4'
  go_wp2_with fail
  generalize w8.alloc (.cells #[.int .i64 q2, .string u2, .int .i64 g2, .string p2, .string b2] 55) = w9 at V8 G8 S8 ⊢
  have OP := fopen_any fedP _ w9 V vb 4 _ _ _ V8.out (G8.out.sub (fun i h => .inl h)) IT.out (show (1 : Int) ≤ ((1 : Nat) : Int) by decide)
  unfold OpenPost openV at OP
  unfold noneS at OP HLST
  rw [HLST.out, if_pos rfl, if_pos rfl] at OP
  unfold recV evV zeroE at OP
  dsimp only at OP
  refine OP.mono ?_
  rintro _ w10 ⟨rfl, hx⟩
  have S9 := Lib.hid (S8.out.trans (.of_ext _ hx))
  have G9 := Lib.hid (G8.out.ext hx)
  clear hx OP
  go_wp2_with fail
  refine (tell_any (errV 8) (.no 8) w10 G9.out.err).mono ?_
  rintro _ w11 ⟨rfl, hx⟩
  have X := Lib.hid (S9.out.trans (.of_ext _ hx)).ext
  clear hx
  go_wp2_with fail
  go_ret
  exact ⟨rfl, X.out⟩
end Go.Proofs.YtgckpfeeioljeaaGreatDoor
namespace Go.Proofs.YtgckpfeeioljeaaGreatDoor

theorem few_sizes {l : List Ev} (h : fewB l = true) : l.length ≤ 30 ∧ ∀ e ∈ l, e.subject.size ≤ 1048576 ∧ e.table.size ≤ 1048576 ∧ e.row.size ≤ 1048576 ∧ e.value.size ≤ 1048576 := by
  unfold fewB at h
  simp only [Bool.and_eq_true, decide_eq_true_eq, Bool.not_eq_true', List.any_eq_false] at h
  refine ⟨by omega, fun e he => ?_⟩
  have := h.2 e he
  unfold longE at this
  simp only [Bool.or_eq_true, decide_eq_true_eq, not_or, Int.not_lt] at this
  omega
theorem run1_prefix (sec : ByteArray) (R : RunM) (e : Ev) : ∃ t, (run1 sec R e).S.L = R.S.L ++ t := by
  unfold run1
  split
  · rename_i hx
    show ∃ t, (doS sec R.S e).L = _
    rw [doS_yes hx]
    exact ⟨_, rfl⟩
  · exact ⟨[], by simp⟩
theorem runs_prefix (sec : ByteArray) : ∀ (m : List Ev) (R : RunM), ∃ t, (m.foldl (run1 sec) R).S.L = R.S.L ++ t
  | [], _ => ⟨[], by simp⟩
  | e :: m, R => by
    obtain ⟨t1, h1⟩ := run1_prefix sec R e
    obtain ⟨t2, h2⟩ := runs_prefix sec m (run1 sec R e)
    exact ⟨t1 ++ t2, by rw [List.foldl_cons, h2, h1, List.append_assoc]⟩
theorem run_prefix (sec : ByteArray) (l m : List Ev) : ∃ t, (runM sec (l ++ m)).S.L = (runM sec l).S.L ++ t := by
  unfold runM
  rw [List.foldl_append]
  exact runs_prefix sec m _
/-- How long a told record's body is. -/
theorem isTold.long {sec : ByteArray} {r : Rec} {e : Ev} (h : isTold sec r e) : r.body.size = if e.kind = 3 then (printL e).length else (printL e).length + 16 := by
  have hl : (mkT (printL e)).size = (printL e).length := by show (printL e).toArray.size = _; rw [List.size_toArray]
  by_cases hk : e.kind = 3
  · rw [(h.gone hk).2, if_pos hk, hl]
  · rw [(h.kept hk).2, if_neg hk, mkS_size, sealB_length, hl]; omega
end Go.Proofs.YtgckpfeeioljeaaGreatDoor
