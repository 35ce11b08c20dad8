/- feed.Open of what was told; Records (the walks). -/
import Derived.Test.YtafdigdopeahdaaGreatDoorProg
import Derived.Test.YtafdigdopeahdaaGreatDoorG31
import Derived.Test.YtafdigdopeahdaaGreatDoorG20
import Derived.Test.YtafdigdopeahdaaGreatDoorG18
namespace Go.Proofs.YtafdigdopeahdaaGreatDoor
open Go.RowKit Go.Shelf

/-- A whole event is stored. -/
theorem setEv5 {w : World} {b : Nat} {v0 v1 v2 v3 v4 : Value} {t : TypeId} (h : w.heap[b]? = some (.cells #[v0, v1, v2, v3, v4] t (0, 0))) (x0 x1 x2 x3 x4 : Value) :
    (((((w.setCell ⟨b, 0, none⟩ x0).setCell ⟨b, 1, none⟩ x1).setCell ⟨b, 2, none⟩ x2).setCell ⟨b, 3, none⟩ x3).setCell ⟨b, 4, none⟩ x4).heap[b]? = some (.cells #[x0, x1, x2, x3, x4] t (0, 0)) ∧
    w.grownBy (((((w.setCell ⟨b, 0, none⟩ x0).setCell ⟨b, 1, none⟩ x1).setCell ⟨b, 2, none⟩ x2).setCell ⟨b, 3, none⟩ x3).setCell ⟨b, 4, none⟩ x4) (some b) := setRec5 h x0 x1 x2 x3 x4
def OpenPost (w : World) (many : ByteArray → Nat) (has : ByteArray → Bool) (r : Rec) (e : Ev) (x : Ending) (w' : World) : Prop := x = .returned (openV many has r e) ∧ ∃ x, w' = ext w x
set_option maxRecDepth 100000 in
set_option maxHeartbeats 4000000 in
/-- A record whose key is no more. -/
theorem fopen_lost (e : Ev) (r : Rec) (w : World) (V : Blk) (vb n : Nat) (sec : ByteArray) (many : ByteArray → Nat) (has : ByteArray → Bool) (hv : vaultIn w V vb n sec many has) (h : isTold sec r e) (hm : r.gen ≤ (many r.subject : Nat)) (hl : lostR many has r = true) :
    Calls Tryz.prog 39 #[.pointer (some ⟨vb, 0, none⟩), .agg (recV r)] w (OpenPost w many has r e) := by
  have hz := h.small
  have HP : Hid (∀ x w', (x = .returned (.tuple #[.agg (evV zeroE), errV 8]) ∧ ∃ y, w' = ext w y) → OpenPost w many has r e x w') := Lib.hid fun x w' hx => ⟨by rw [hx.1]; unfold openV; rw [if_pos hl, if_pos hl], hx.2⟩
  generalize OpenPost w many has r e = P at HP ⊢
  unfold lostR at hl
  simp only [Bool.and_eq_true, decide_eq_true_eq] at hl
  have hg := h.gen0
  have KY := fun W hV => vkey_in r.subject r.gen W V vb n sec many has hV (by omega) (by omega) hm
  rw [if_pos (by simpa using hl.2)] at KY
  have hne : (r.gen == 0) = false := by simp [hl.1]
  have hne2 : (r.gen != 0) = true := by simp [hl.1]
  have HV := Lib.hid hv
  clear hv h hm hl hg hz
  obtain ⟨q, s, g, p, b⟩ := r
  unfold recV
  dsimp only at KY hne hne2 ⊢
  have H2 := two_new w (.cells #[.int .i64 q, .string s, .int .i64 g, .string p, .string b] 36) (.cells #[.int .i64 0, .string ⟨#[]⟩, .string ⟨#[]⟩, .string ⟨#[]⟩, .string ⟨#[]⟩] 40)
  have X2 := Lib.hid (ext_alloc (.cells #[.int .i64 0, .string ⟨#[]⟩, .string ⟨#[]⟩, .string ⟨#[]⟩, .string ⟨#[]⟩] 40) (ext_alloc (.cells #[.int .i64 q, .string s, .int .i64 g, .string p, .string b] 36) (ext_refl w)))
  have HE := Lib.hid H2.1
  have HZ := Lib.hid H2.2.1
  clear H2
  go_enter Tryz.func39, Tryz.ntmps39
  go_wp2_with fail
  generalize (w.alloc (.cells #[.int .i64 q, .string s, .int .i64 g, .string p, .string b] 36)).alloc (.cells #[.int .i64 0, .string ⟨#[]⟩, .string ⟨#[]⟩, .string ⟨#[]⟩, .string ⟨#[]⟩] 40) = w1 at HE HZ X2 ⊢
  obtain ⟨c0, c1, c2, c3, c4⟩ := rec_cells (r := ⟨q, s, g, p, b⟩) HE.out
  dsimp only at c0 c1 c2 c3 c4
  have le := lt_of_heap HE.out
  go_wp2_with fail
  refine (KY _ (HV.out.ext X2.out)).mono ?_
  rintro _ w2 ⟨rfl, rfl⟩
  obtain ⟨y0, y1, y2, y3, y4⟩ := ev_cells HZ.out
  have lz := lt_of_heap HZ.out
  have fz := free_of_heap HZ.out
  have SR := Lib.hid (setEv5 HZ.out (.int .i64 0) (.string ⟨#[]⟩) (.string ⟨#[]⟩) (.string ⟨#[]⟩) (.string ⟨#[]⟩))
  go_wp2_with fail
  generalize (((((w1.setCell ⟨w.heap.size + 1, 0, none⟩ (.int .i64 0)).setCell ⟨w.heap.size + 1, 1, none⟩ (.string ⟨#[]⟩)).setCell ⟨w.heap.size + 1, 2, none⟩ (.string ⟨#[]⟩)).setCell ⟨w.heap.size + 1, 3, none⟩ (.string ⟨#[]⟩)).setCell ⟨w.heap.size + 1, 4, none⟩ (.string ⟨#[]⟩)) = w9 at SR ⊢
  obtain ⟨SR1, SR2⟩ := SR.out
  exact ret_cells rfl rfl SR1 Tryz.underlying40 rfl (by kernel_rfl) rfl rfl (HP.out _ _ ⟨rfl, ext_of ((ext_iff.1 X2.out).grown SR2 (ext_iff.1 X2.out).size (fun j e => by cases e; omega))⟩)
set_option maxRecDepth 100000 in
set_option maxHeartbeats 4000000 in
/-- A Gone. -/
theorem fopen_gone (e : Ev) (r : Rec) (w : World) (V : Blk) (vb : Nat) (sec : ByteArray) (many : ByteArray → Nat) (has : ByteArray → Bool) (hG : Glob w V) (h : isTold sec r e) (hk : e.kind = 3) :
    Calls Tryz.prog 39 #[.pointer (some ⟨vb, 0, none⟩), .agg (recV r)] w (OpenPost w many has r e) := by
  have hz := h.small
  obtain ⟨hg, hb⟩ := h.gone hk
  have hnl : lostR many has r = false := by unfold lostR; rw [hg]; rfl
  have HP : Hid (∀ x w', (x = .returned (.tuple #[.agg (evV e), .nilIface]) ∧ ∃ y, w' = ext w y) → OpenPost w many has r e x w') := Lib.hid fun x w' hx => ⟨by rw [hx.1]; unfold openV; rw [hnl]; rfl, hx.2⟩
  generalize OpenPost w many has r e = P at HP ⊢
  have hs := h.subj
  obtain ⟨hp1, hp2⟩ := parse_of_print e h.right
  have PS := fun W hM hW => parse_any r.body W (by omega) hM hW
  unfold ParsePost at PS
  rw [hb, show mkT (printL e) = (⟨(printL e).toArray⟩ : ByteArray) from rfl, hp1, hp2] at PS
  have GG := Lib.hid hG
  rw [show mkT (printL e) = (⟨(printL e).toArray⟩ : ByteArray) from rfl] at hb
  obtain ⟨q, s, g, p, b⟩ := r
  dsimp only at hg hb hs
  subst hg hs
  generalize (⟨(printL e).toArray⟩ : ByteArray) = pb at PS hb
  subst hb
  clear h hp1 hp2 hz hnl hG
  obtain ⟨k, u, t, rw_, v⟩ := e
  dsimp only at hk
  subst hk
  unfold recV
  unfold evV at PS HP
  dsimp only at PS HP ⊢
  have H2 := two_new w (.cells #[.int .i64 q, .string u, .int .i64 0, .string p, .string b] 36) (.cells #[.int .i64 0, .string ⟨#[]⟩, .string ⟨#[]⟩, .string ⟨#[]⟩, .string ⟨#[]⟩] 40)
  have X2 := Lib.hid (ext_alloc (.cells #[.int .i64 0, .string ⟨#[]⟩, .string ⟨#[]⟩, .string ⟨#[]⟩, .string ⟨#[]⟩] 40) (ext_alloc (.cells #[.int .i64 q, .string u, .int .i64 0, .string p, .string b] 36) (ext_refl w)))
  have HE := Lib.hid H2.1
  have HZ := Lib.hid H2.2.1
  clear H2
  go_enter Tryz.func39, Tryz.ntmps39
  go_wp2_with fail
  generalize (w.alloc (.cells #[.int .i64 q, .string u, .int .i64 0, .string p, .string b] 36)).alloc (.cells #[.int .i64 0, .string ⟨#[]⟩, .string ⟨#[]⟩, .string ⟨#[]⟩, .string ⟨#[]⟩] 40) = w1 at HE HZ X2 ⊢
  obtain ⟨c0, c1, c2, c3, c4⟩ := rec_cells (r := ⟨q, u, 0, p, b⟩) HE.out
  dsimp only at c0 c1 c2 c3 c4
  have le := lt_of_heap HE.out
  go_wp2_with fail
  have G1 := GG.out.ext X2.out
  refine (PS _ G1.maxl G1.words).mono ?_
  rintro _ w2 ⟨rfl, hx⟩
  have E3 := Lib.hid (((ext_iff.1 hx).block _ (lt_of_heap HE.out)).trans HE.out)
  have Z3 := Lib.hid (((ext_iff.1 hx).block _ (lt_of_heap HZ.out)).trans HZ.out)
  have X3 := Lib.hid (ext_trans X2.out hx)
  clear hx c0 c1 c2 c3 c4 le HE HZ X2 G1
  obtain ⟨d0, d1, d2, d3, d4⟩ := rec_cells (r := ⟨q, u, 0, p, b⟩) E3.out
  dsimp only at d0 d1 d2 d3 d4
  have le := lt_of_heap E3.out
  obtain ⟨y0, y1, y2, y3, y4⟩ := ev_cells Z3.out
  have lz := lt_of_heap Z3.out
  have fz := free_of_heap Z3.out
  have SR := Lib.hid (setEv5 Z3.out (.int .i64 3) (.string u) (.string t) (.string rw_) (.string v))
  go_wp2_with fail
  generalize (((((w2.setCell ⟨w.heap.size + 1, 0, none⟩ (.int .i64 3)).setCell ⟨w.heap.size + 1, 1, none⟩ (.string u)).setCell ⟨w.heap.size + 1, 2, none⟩ (.string t)).setCell ⟨w.heap.size + 1, 3, none⟩ (.string rw_)).setCell ⟨w.heap.size + 1, 4, none⟩ (.string v)) = w9 at SR ⊢
  obtain ⟨SR1, SR2⟩ := SR.out
  exact ret_cells rfl rfl ((heap_alloc_old w9 _ (lt_of_heap SR1)).trans SR1) Tryz.underlying40 rfl (by kernel_rfl) rfl rfl (HP.out _ _ ⟨rfl, ext_alloc _ (ext_of ((ext_iff.1 X3.out).grown SR2 (ext_iff.1 X3.out).size (fun j e => by cases e; omega)))⟩)
set_option maxRecDepth 100000 in
set_option maxHeartbeats 4000000 in
/-- A record that is read. -/
theorem fopen_kept (e : Ev) (r : Rec) (w : World) (V : Blk) (vb n : Nat) (sec : ByteArray) (many : ByteArray → Nat) (has : ByteArray → Bool) (hv : vaultIn w V vb n sec many has) (hG : Glob w V) (h : isTold sec r e) (hm : r.gen ≤ (many r.subject : Nat)) (hk : e.kind ≠ 3) (hl : lostR many has r = false) :
    Calls Tryz.prog 39 #[.pointer (some ⟨vb, 0, none⟩), .agg (recV r)] w (OpenPost w many has r e) := by
  have hz := h.small
  obtain ⟨hg, hb⟩ := h.kept hk
  have HP : Hid (∀ x w', (x = .returned (.tuple #[.agg (evV e), .nilIface]) ∧ ∃ y, w' = ext w y) → OpenPost w many has r e x w') := Lib.hid fun x w' hx => ⟨by rw [hx.1]; unfold openV; rw [hl]; rfl, hx.2⟩
  generalize OpenPost w many has r e = P at HP ⊢
  have hs := h.subj
  obtain ⟨hp1, hp2⟩ := parse_of_print e h.right
  have hps := (print_short h.right).1
  have hpz : (mkT (printL e)).size ≤ 400 := by show (printL e).toArray.size ≤ 400; rw [List.size_toArray]; omega
  have PS := fun W hM hW => parse_any (mkT (printL e)) W (by omega) hM hW
  unfold ParsePost at PS
  rw [show mkT (printL e) = (⟨(printL e).toArray⟩ : ByteArray) from rfl, hp1, hp2] at PS
  have KY := fun W hV => vkey_in r.subject r.gen W V vb n sec many has hV (by omega) hg hm
  unfold lostR at hl
  have hl2 : (decide (r.gen < (many r.subject : Nat)) || !has r.subject) = false := by
    rw [show decide (r.gen ≠ 0) = true from decide_eq_true (by omega), Bool.true_and] at hl; exact hl
  rw [hl2, if_neg (by simp)] at KY
  have hne : (r.gen == 0) = false := by simp; omega
  have hne2 : (r.gen != 0) = true := by simp; omega
  have hke : (e.kind == 3) = false := by simp [hk]
  have OP := fun W hR => open_any (keyS sec r.subject r.gen.toNat) (nonceR r) (withR r) r.body W (keyS_size _ _ _) (nonceR_size r) (by rw [withR_size]; omega) hR (by rw [hb, hs]; exact opens_seal _ _ _ _ hpz)
  have hob : (⟨(openB (keyS sec r.subject r.gen.toNat) (nonceR r) r.body).toArray⟩ : ByteArray) = (⟨(printL e).toArray⟩ : ByteArray) := by
    rw [hb, hs]
    have := openB_seal (keyS sec e.subject r.gen.toNat) (nonceR r) (withR r) (mkT (printL e))
    unfold mkS
    rw [this]; rfl
  rw [hob] at OP
  have NN := fun W => nonce_any r W
  have WW := fun W hR => with_any r W (by omega) hR
  have HV := Lib.hid hv
  have GG := Lib.hid hG
  generalize (⟨(printL e).toArray⟩ : ByteArray) = pb at PS OP
  generalize keyS sec r.subject r.gen.toNat = key at KY OP
  generalize nonceR r = nn at NN OP
  generalize withR r = ww at WW OP
  clear h hp1 hp2 hz hG hv hl hl2 hpz hps hob hb hg hm hk
  obtain ⟨q, s, g, p, b⟩ := r
  dsimp only at hs
  subst hs
  obtain ⟨k, u, t, rw_, v⟩ := e
  unfold recV at NN WW
  unfold recV
  unfold evV at PS HP
  dsimp only at PS HP KY NN WW OP hne hne2 hke ⊢
  have H2 := two_new w (.cells #[.int .i64 q, .string u, .int .i64 g, .string p, .string b] 36) (.cells #[.int .i64 0, .string ⟨#[]⟩, .string ⟨#[]⟩, .string ⟨#[]⟩, .string ⟨#[]⟩] 40)
  have X2 := Lib.hid (ext_alloc (.cells #[.int .i64 0, .string ⟨#[]⟩, .string ⟨#[]⟩, .string ⟨#[]⟩, .string ⟨#[]⟩] 40) (ext_alloc (.cells #[.int .i64 q, .string u, .int .i64 g, .string p, .string b] 36) (ext_refl w)))
  have HE := Lib.hid H2.1
  have HZ := Lib.hid H2.2.1
  clear H2
  go_enter Tryz.func39, Tryz.ntmps39
  go_wp2_with fail
  generalize (w.alloc (.cells #[.int .i64 q, .string u, .int .i64 g, .string p, .string b] 36)).alloc (.cells #[.int .i64 0, .string ⟨#[]⟩, .string ⟨#[]⟩, .string ⟨#[]⟩, .string ⟨#[]⟩] 40) = w1 at HE HZ X2 ⊢
  obtain ⟨c0, c1, c2, c3, c4⟩ := rec_cells (r := ⟨q, u, g, p, b⟩) HE.out
  dsimp only at c0 c1 c2 c3 c4
  have le := lt_of_heap HE.out
  go_wp2_with fail
  refine (KY _ (HV.out.ext X2.out)).mono ?_
  rintro _ w2 ⟨rfl, rfl⟩
  have G1 := Lib.hid (GG.out.ext X2.out)
  go_wp2_with fail
  refine wp_region_ext (by kernel_rfl) (by kernel_rfl) ?_
  repeat (go_big_quiet_step ((first | (go_at_call 55; refine (NN _).mono ?_; rintro _ _ ⟨rfl, hx⟩; exact ⟨rfl, ext_trans ⟨_, rfl⟩ hx⟩) | (go_at_call 56; refine (WW _ (Rounds_ext G1.out.rounds ⟨_, rfl⟩)).mono ?_; rintro _ _ ⟨rfl, hx⟩; exact ⟨rfl, ext_trans ⟨_, rfl⟩ hx⟩) | (go_at_call 59; refine (OP _ (Rounds_ext G1.out.rounds ⟨_, rfl⟩)).mono ?_; rintro _ _ ⟨rfl, hx⟩; exact ⟨rfl, ext_trans ⟨_, rfl⟩ hx⟩))))
  refine wpQuiet_nil ?_
  rintro _ ⟨x, rfl⟩
  have HX : Hid (∃ x', ext w1 x = ext w1 x') := Lib.hid ⟨x, rfl⟩
  generalize ext w1 x = wx at HX ⊢
  have EX := Lib.hid (((ext_iff.1 HX.out).block _ (lt_of_heap HE.out)).trans HE.out)
  have ZX := Lib.hid (((ext_iff.1 HX.out).block _ (lt_of_heap HZ.out)).trans HZ.out)
  have GX := Lib.hid (G1.out.ext HX.out)
  have XX := Lib.hid (ext_trans X2.out HX.out)
  clear c0 c1 c2 c3 c4 le HE HZ X2 G1 HX NN WW OP KY HV
  go_wp2_with fail
  refine (PS _ GX.out.maxl GX.out.words).mono ?_
  rintro _ w2 ⟨rfl, hx⟩
  have E3 := Lib.hid (((ext_iff.1 hx).block _ (lt_of_heap EX.out)).trans EX.out)
  have Z3 := Lib.hid (((ext_iff.1 hx).block _ (lt_of_heap ZX.out)).trans ZX.out)
  have X3 := Lib.hid (ext_trans XX.out hx)
  clear hx EX ZX XX GX
  obtain ⟨d0, d1, d2, d3, d4⟩ := rec_cells (r := ⟨q, u, g, p, b⟩) E3.out
  dsimp only at d0 d1 d2 d3 d4
  have le := lt_of_heap E3.out
  obtain ⟨y0, y1, y2, y3, y4⟩ := ev_cells Z3.out
  have lz := lt_of_heap Z3.out
  have fz := free_of_heap Z3.out
  have SR := Lib.hid (setEv5 Z3.out (.int .i64 k) (.string u) (.string t) (.string rw_) (.string v))
  go_wp2_with fail
  generalize (((((w2.setCell ⟨w.heap.size + 1, 0, none⟩ (.int .i64 k)).setCell ⟨w.heap.size + 1, 1, none⟩ (.string u)).setCell ⟨w.heap.size + 1, 2, none⟩ (.string t)).setCell ⟨w.heap.size + 1, 3, none⟩ (.string rw_)).setCell ⟨w.heap.size + 1, 4, none⟩ (.string v)) = w9 at SR ⊢
  obtain ⟨SR1, SR2⟩ := SR.out
  exact ret_cells rfl rfl ((heap_alloc_old w9 _ (lt_of_heap SR1)).trans SR1) Tryz.underlying40 rfl (by kernel_rfl) rfl rfl (HP.out _ _ ⟨rfl, ext_alloc _ (ext_of ((ext_iff.1 X3.out).grown SR2 (ext_iff.1 X3.out).size (fun j e => by cases e; omega)))⟩)
theorem fopen_any (e : Ev) (r : Rec) (w : World) (V : Blk) (vb n : Nat) (sec : ByteArray) (many : ByteArray → Nat) (has : ByteArray → Bool) (hv : vaultIn w V vb n sec many has) (hG : Glob w V) (h : isTold sec r e) (hm : r.gen ≤ (many r.subject : Nat)) :
    Calls Tryz.prog 39 #[.pointer (some ⟨vb, 0, none⟩), .agg (recV r)] w (OpenPost w many has r e) := by
  cases hl : lostR many has r with
  | true => exact fopen_lost e r w V vb n sec many has hv h hm hl
  | false =>
    by_cases hk : e.kind = 3
    · exact fopen_gone e r w V vb sec many has hG h hk
    · exact fopen_kept e r w V vb n sec many has hv hG h hm hk hl
end Go.Proofs.YtafdigdopeahdaaGreatDoor
