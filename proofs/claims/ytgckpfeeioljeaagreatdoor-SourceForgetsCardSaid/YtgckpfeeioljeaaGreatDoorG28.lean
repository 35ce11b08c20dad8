/- feed.Open of what was told; Records (the walks). · A source to which events happen, one behind the other: plain laws. -/
import Derived.Test.YtgckpfeeioljeaaGreatDoorProg
import Derived.Test.YtgckpfeeioljeaaGreatDoorG24
import Derived.Test.YtgckpfeeioljeaaGreatDoorG16
import Derived.Test.YtgckpfeeioljeaaGreatDoorG14
import Derived.Test.YtgckpfeeioljeaaGreatDoorG26
namespace Go.Proofs.YtgckpfeeioljeaaGreatDoor
open Go.RowKit Go.Shelf

/-- A whole event is stored. -/
theorem setEv5 {w : World} {b : Nat} {v0 v1 v2 v3 v4 : Value} {t : TypeId} (h : w.heap[b]? = some (.cells #[v0, v1, v2, v3, v4] t (0, 0))) (x0 x1 x2 x3 x4 : Value) :
    (((((w.setCell ⟨b, 0, none⟩ x0).setCell ⟨b, 1, none⟩ x1).setCell ⟨b, 2, none⟩ x2).setCell ⟨b, 3, none⟩ x3).setCell ⟨b, 4, none⟩ x4).heap[b]? = some (.cells #[x0, x1, x2, x3, x4] t (0, 0)) ∧
    w.grownBy (((((w.setCell ⟨b, 0, none⟩ x0).setCell ⟨b, 1, none⟩ x1).setCell ⟨b, 2, none⟩ x2).setCell ⟨b, 3, none⟩ x3).setCell ⟨b, 4, none⟩ x4) (some b) := setRec5 h x0 x1 x2 x3 x4
def OpenPost (w : World) (many : ByteArray → Nat) (has : ByteArray → Bool) (r : Rec) (e : Ev) (x : Ending) (w' : World) : Prop := x = .returned (openV many has r e) ∧ ∃ x, w' = ext w x
set_option maxRecDepth 100000 in
set_option maxHeartbeats 4000000 in
/-- A record whose key is no more. -/
theorem fopen_lost (e : Ev) (r : Rec) (w : World) (V : Blk) (vb n : Nat) (sec : ByteArray) (many : ByteArray → Nat) (has : ByteArray → Bool) (hv : vaultIn w V vb n sec many has) (h : isTold sec r e) (hm : r.gen ≤ (many r.subject : Nat)) (hl : lostR many has r = true) :
    Calls Tryz.prog 22 #[.pointer (some ⟨vb, 0, none⟩), .agg (recV r)] w (OpenPost w many has r e) := by
  have hz := h.small
  have HP : Hid (∀ x w', (x = .returned (.tuple #[.agg (evV zeroE), errV 8]) ∧ ∃ y, w' = ext w y) → OpenPost w many has r e x w') := Lib.hid fun x w' hx => ⟨by rw [hx.1]; unfold openV; rw [if_pos hl, if_pos hl], hx.2⟩
  generalize OpenPost w many has r e = P at HP ⊢
  unfold lostR at hl
  simp only [Bool.and_eq_true, decide_eq_true_eq] at hl
  have hg := h.gen0
  have KY := fun W hV => vkey_in r.subject r.gen W V vb n sec many has hV (by omega) (by omega) hm
  rw [if_pos (by simpa using hl.2)] at KY
  have hne : (r.gen == 0) = false := by simp [hl.1]
  have hne2 : (r.gen != 0) = true := by simp [hl.1]
  have HV := Lib.hid hv
  clear hv h hm hl hg hz
  obtain ⟨q, s, g, p, b⟩ := r
  unfold recV
  dsimp only at KY hne hne2 ⊢
  have H2 := two_new w (.cells #[.int .i64 q, .string s, .int .i64 g, .string p, .string b] 55) (.cells #[.int .i64 0, .string ⟨#[]⟩, .string ⟨#[]⟩, .string ⟨#[]⟩, .string ⟨#[]⟩] 51)
  have X2 := Lib.hid (ext_alloc (.cells #[.int .i64 0, .string ⟨#[]⟩, .string ⟨#[]⟩, .string ⟨#[]⟩, .string ⟨#[]⟩] 51) (ext_alloc (.cells #[.int .i64 q, .string s, .int .i64 g, .string p, .string b] 55) (ext_refl w)))
  have HE := Lib.hid H2.1
  have HZ := Lib.hid H2.2.1
  clear H2
  go_enter Tryz.func22, Tryz.ntmps22
  go_wp2_with fail
  generalize (w.alloc (.cells #[.int .i64 q, .string s, .int .i64 g, .string p, .string b] 55)).alloc (.cells #[.int .i64 0, .string ⟨#[]⟩, .string ⟨#[]⟩, .string ⟨#[]⟩, .string ⟨#[]⟩] 51) = w1 at HE HZ X2 ⊢
  obtain ⟨c0, c1, c2, c3, c4⟩ := rec_cells (r := ⟨q, s, g, p, b⟩) HE.out
  dsimp only at c0 c1 c2 c3 c4
  have le := lt_of_heap HE.out
  go_wp2_with fail
  refine (KY _ (HV.out.ext X2.out)).mono ?_
  rintro _ w2 ⟨rfl, rfl⟩
  obtain ⟨y0, y1, y2, y3, y4⟩ := ev_cells HZ.out
  have lz := lt_of_heap HZ.out
  have fz := free_of_heap HZ.out
  have SR := Lib.hid (setEv5 HZ.out (.int .i64 0) (.string ⟨#[]⟩) (.string ⟨#[]⟩) (.string ⟨#[]⟩) (.string ⟨#[]⟩))
  go_wp2_with fail
  generalize (((((w1.setCell ⟨w.heap.size + 1, 0, none⟩ (.int .i64 0)).setCell ⟨w.heap.size + 1, 1, none⟩ (.string ⟨#[]⟩)).setCell ⟨w.heap.size + 1, 2, none⟩ (.string ⟨#[]⟩)).setCell ⟨w.heap.size + 1, 3, none⟩ (.string ⟨#[]⟩)).setCell ⟨w.heap.size + 1, 4, none⟩ (.string ⟨#[]⟩)) = w9 at SR ⊢
  obtain ⟨SR1, SR2⟩ := SR.out
  exact ret_cells rfl rfl SR1 Tryz.underlying51 rfl (by kernel_rfl) rfl rfl (HP.out _ _ ⟨rfl, ext_of ((ext_iff.1 X2.out).grown SR2 (ext_iff.1 X2.out).size (fun j e => by cases e; omega))⟩)
set_option maxRecDepth 100000 in
set_option maxHeartbeats 4000000 in
/-- A Gone. -/
theorem fopen_gone (e : Ev) (r : Rec) (w : World) (V : Blk) (vb : Nat) (sec : ByteArray) (many : ByteArray → Nat) (has : ByteArray → Bool) (hG : Glob w V) (h : isTold sec r e) (hk : e.kind = 3) :
    Calls Tryz.prog 22 #[.pointer (some ⟨vb, 0, none⟩), .agg (recV r)] w (OpenPost w many has r e) := by
  have hz := h.small
  obtain ⟨hg, hb⟩ := h.gone hk
  have hnl : lostR many has r = false := by unfold lostR; rw [hg]; rfl
  have HP : Hid (∀ x w', (x = .returned (.tuple #[.agg (evV e), .nilIface]) ∧ ∃ y, w' = ext w y) → OpenPost w many has r e x w') := Lib.hid fun x w' hx => ⟨by rw [hx.1]; unfold openV; rw [hnl]; rfl, hx.2⟩
  generalize OpenPost w many has r e = P at HP ⊢
  have hs := h.subj
  obtain ⟨hp1, hp2⟩ := parse_of_print e h.right
  have PS := fun W hM hW => parse_any r.body W (by omega) hM hW
  unfold ParsePost at PS
  rw [hb, show mkT (printL e) = (⟨(printL e).toArray⟩ : ByteArray) from rfl, hp1, hp2] at PS
  have GG := Lib.hid hG
  rw [show mkT (printL e) = (⟨(printL e).toArray⟩ : ByteArray) from rfl] at hb
  obtain ⟨q, s, g, p, b⟩ := r
  dsimp only at hg hb hs
  subst hg hs
  generalize (⟨(printL e).toArray⟩ : ByteArray) = pb at PS hb
  subst hb
  clear h hp1 hp2 hz hnl hG
  obtain ⟨k, u, t, rw_, v⟩ := e
  dsimp only at hk
  subst hk
  unfold recV
  unfold evV at PS HP
  dsimp only at PS HP ⊢
  have H2 := two_new w (.cells #[.int .i64 q, .string u, .int .i64 0, .string p, .string b] 55) (.cells #[.int .i64 0, .string ⟨#[]⟩, .string ⟨#[]⟩, .string ⟨#[]⟩, .string ⟨#[]⟩] 51)
  have X2 := Lib.hid (ext_alloc (.cells #[.int .i64 0, .string ⟨#[]⟩, .string ⟨#[]⟩, .string ⟨#[]⟩, .string ⟨#[]⟩] 51) (ext_alloc (.cells #[.int .i64 q, .string u, .int .i64 0, .string p, .string b] 55) (ext_refl w)))
  have HE := Lib.hid H2.1
  have HZ := Lib.hid H2.2.1
  clear H2
  go_enter Tryz.func22, Tryz.ntmps22
  go_wp2_with fail
  generalize (w.alloc (.cells #[.int .i64 q, .string u, .int .i64 0, .string p, .string b] 55)).alloc (.cells #[.int .i64 0, .string ⟨#[]⟩, .string ⟨#[]⟩, .string ⟨#[]⟩, .string ⟨#[]⟩] 51) = w1 at HE HZ X2 ⊢
  obtain ⟨c0, c1, c2, c3, c4⟩ := rec_cells (r := ⟨q, u, 0, p, b⟩) HE.out
  dsimp only at c0 c1 c2 c3 c4
  have le := lt_of_heap HE.out
  go_wp2_with fail
  have G1 := GG.out.ext X2.out
  refine (PS _ G1.maxl G1.words).mono ?_
  rintro _ w2 ⟨rfl, hx⟩
  have E3 := Lib.hid (((ext_iff.1 hx).block _ (lt_of_heap HE.out)).trans HE.out)
  have Z3 := Lib.hid (((ext_iff.1 hx).block _ (lt_of_heap HZ.out)).trans HZ.out)
  have X3 := Lib.hid (ext_trans X2.out hx)
  clear hx c0 c1 c2 c3 c4 le HE HZ X2 G1
  obtain ⟨d0, d1, d2, d3, d4⟩ := rec_cells (r := ⟨q, u, 0, p, b⟩) E3.out
  dsimp only at d0 d1 d2 d3 d4
  have le := lt_of_heap E3.out
  obtain ⟨y0, y1, y2, y3, y4⟩ := ev_cells Z3.out
  have lz := lt_of_heap Z3.out
  have fz := free_of_heap Z3.out
  have SR := Lib.hid (setEv5 Z3.out (.int .i64 3) (.string u) (.string t) (.string rw_) (.string v))
  go_wp2_with fail
  generalize (((((w2.setCell ⟨w.heap.size + 1, 0, none⟩ (.int .i64 3)).setCell ⟨w.heap.size + 1, 1, none⟩ (.string u)).setCell ⟨w.heap.size + 1, 2, none⟩ (.string t)).setCell ⟨w.heap.size + 1, 3, none⟩ (.string rw_)).setCell ⟨w.heap.size + 1, 4, none⟩ (.string v)) = w9 at SR ⊢
  obtain ⟨SR1, SR2⟩ := SR.out
  exact ret_cells rfl rfl ((heap_alloc_old w9 _ (lt_of_heap SR1)).trans SR1) Tryz.underlying51 rfl (by kernel_rfl) rfl rfl (HP.out _ _ ⟨rfl, ext_alloc _ (ext_of ((ext_iff.1 X3.out).grown SR2 (ext_iff.1 X3.out).size (fun j e => by cases e; omega)))⟩)
set_option maxRecDepth 100000 in
set_option maxHeartbeats 4000000 in
/-- A record that is read. -/
theorem fopen_kept (e : Ev) (r : Rec) (w : World) (V : Blk) (vb n : Nat) (sec : ByteArray) (many : ByteArray → Nat) (has : ByteArray → Bool) (hv : vaultIn w V vb n sec many has) (hG : Glob w V) (h : isTold sec r e) (hm : r.gen ≤ (many r.subject : Nat)) (hk : e.kind ≠ 3) (hl : lostR many has r = false) :
    Calls Tryz.prog 22 #[.pointer (some ⟨vb, 0, none⟩), .agg (recV r)] w (OpenPost w many has r e) := by
  have hz := h.small
  obtain ⟨hg, hb⟩ := h.kept hk
  have HP : Hid (∀ x w', (x = .returned (.tuple #[.agg (evV e), .nilIface]) ∧ ∃ y, w' = ext w y) → OpenPost w many has r e x w') := Lib.hid fun x w' hx => ⟨by rw [hx.1]; unfold openV; rw [hl]; rfl, hx.2⟩
  generalize OpenPost w many has r e = P at HP ⊢
  have hs := h.subj
  obtain ⟨hp1, hp2⟩ := parse_of_print e h.right
  have hps := (print_short h.right).1
  have hpz : (mkT (printL e)).size ≤ 400 := by show (printL e).toArray.size ≤ 400; rw [List.size_toArray]; omega
  have PS := fun W hM hW => parse_any (mkT (printL e)) W (by omega) hM hW
  unfold ParsePost at PS
  rw [show mkT (printL e) = (⟨(printL e).toArray⟩ : ByteArray) from rfl, hp1, hp2] at PS
  have KY := fun W hV => vkey_in r.subject r.gen W V vb n sec many has hV (by omega) hg hm
  unfold lostR at hl
  have hl2 : (decide (r.gen < (many r.subject : Nat)) || !has r.subject) = false := by
    rw [show decide (r.gen ≠ 0) = true from decide_eq_true (by omega), Bool.true_and] at hl; exact hl
  rw [hl2, if_neg (by simp)] at KY
  have hne : (r.gen == 0) = false := by simp; omega
  have hne2 : (r.gen != 0) = true := by simp; omega
  have hke : (e.kind == 3) = false := by simp [hk]
  have OP := fun W hR => open_any (keyS sec r.subject r.gen.toNat) (nonceR r) (withR r) r.body W (keyS_size _ _ _) (nonceR_size r) (by rw [withR_size]; omega) hR (by rw [hb, hs]; exact opens_seal _ _ _ _ hpz)
  have hob : (⟨(openB (keyS sec r.subject r.gen.toNat) (nonceR r) r.body).toArray⟩ : ByteArray) = (⟨(printL e).toArray⟩ : ByteArray) := by
    rw [hb, hs]
    have := openB_seal (keyS sec e.subject r.gen.toNat) (nonceR r) (withR r) (mkT (printL e))
    unfold mkS
    rw [this]; rfl
  rw [hob] at OP
  have NN := fun W => nonce_any r W
  have WW := fun W hR => with_any r W (by omega) hR
  have HV := Lib.hid hv
  have GG := Lib.hid hG
  generalize (⟨(printL e).toArray⟩ : ByteArray) = pb at PS OP
  generalize keyS sec r.subject r.gen.toNat = key at KY OP
  generalize nonceR r = nn at NN OP
  generalize withR r = ww at WW OP
  clear h hp1 hp2 hz hG hv hl hl2 hpz hps hob hb hg hm hk
  obtain ⟨q, s, g, p, b⟩ := r
  dsimp only at hs
  subst hs
  obtain ⟨k, u, t, rw_, v⟩ := e
  unfold recV at NN WW
  unfold recV
  unfold evV at PS HP
  dsimp only at PS HP KY NN WW OP hne hne2 hke ⊢
  have H2 := two_new w (.cells #[.int .i64 q, .string u, .int .i64 g, .string p, .string b] 55) (.cells #[.int .i64 0, .string ⟨#[]⟩, .string ⟨#[]⟩, .string ⟨#[]⟩, .string ⟨#[]⟩] 51)
  have X2 := Lib.hid (ext_alloc (.cells #[.int .i64 0, .string ⟨#[]⟩, .string ⟨#[]⟩, .string ⟨#[]⟩, .string ⟨#[]⟩] 51) (ext_alloc (.cells #[.int .i64 q, .string u, .int .i64 g, .string p, .string b] 55) (ext_refl w)))
  have HE := Lib.hid H2.1
  have HZ := Lib.hid H2.2.1
  clear H2
  go_enter Tryz.func22, Tryz.ntmps22
  go_wp2_with fail
  generalize (w.alloc (.cells #[.int .i64 q, .string u, .int .i64 g, .string p, .string b] 55)).alloc (.cells #[.int .i64 0, .string ⟨#[]⟩, .string ⟨#[]⟩, .string ⟨#[]⟩, .string ⟨#[]⟩] 51) = w1 at HE HZ X2 ⊢
  obtain ⟨c0, c1, c2, c3, c4⟩ := rec_cells (r := ⟨q, u, g, p, b⟩) HE.out
  dsimp only at c0 c1 c2 c3 c4
  have le := lt_of_heap HE.out
  go_wp2_with fail
  refine (KY _ (HV.out.ext X2.out)).mono ?_
  rintro _ w2 ⟨rfl, rfl⟩
  have G1 := Lib.hid (GG.out.ext X2.out)
  go_wp2_with fail
  refine wp_region_ext (by kernel_rfl) (by kernel_rfl) ?_
  repeat (go_big_quiet_step ((first | (go_at_call 58; refine (NN _).mono ?_; rintro _ _ ⟨rfl, hx⟩; exact ⟨rfl, ext_trans ⟨_, rfl⟩ hx⟩) | (go_at_call 59; refine (WW _ (Rounds_ext G1.out.rounds ⟨_, rfl⟩)).mono ?_; rintro _ _ ⟨rfl, hx⟩; exact ⟨rfl, ext_trans ⟨_, rfl⟩ hx⟩) | (go_at_call 57; refine (OP _ (Rounds_ext G1.out.rounds ⟨_, rfl⟩)).mono ?_; rintro _ _ ⟨rfl, hx⟩; exact ⟨rfl, ext_trans ⟨_, rfl⟩ hx⟩))))
  refine wpQuiet_nil ?_
  rintro _ ⟨x, rfl⟩
  have HX : Hid (∃ x', ext w1 x = ext w1 x') := Lib.hid ⟨x, rfl⟩
  generalize ext w1 x = wx at HX ⊢
  have EX := Lib.hid (((ext_iff.1 HX.out).block _ (lt_of_heap HE.out)).trans HE.out)
  have ZX := Lib.hid (((ext_iff.1 HX.out).block _ (lt_of_heap HZ.out)).trans HZ.out)
  have GX := Lib.hid (G1.out.ext HX.out)
  have XX := Lib.hid (ext_trans X2.out HX.out)
  clear c0 c1 c2 c3 c4 le HE HZ X2 G1 HX NN WW OP KY HV
  go_wp2_with fail
  refine (PS _ GX.out.maxl GX.out.words).mono ?_
  rintro _ w2 ⟨rfl, hx⟩
  have E3 := Lib.hid (((ext_iff.1 hx).block _ (lt_of_heap EX.out)).trans EX.out)
  have Z3 := Lib.hid (((ext_iff.1 hx).block _ (lt_of_heap ZX.out)).trans ZX.out)
  have X3 := Lib.hid (ext_trans XX.out hx)
  clear hx EX ZX XX GX
  obtain ⟨d0, d1, d2, d3, d4⟩ := rec_cells (r := ⟨q, u, g, p, b⟩) E3.out
  dsimp only at d0 d1 d2 d3 d4
  have le := lt_of_heap E3.out
  obtain ⟨y0, y1, y2, y3, y4⟩ := ev_cells Z3.out
  have lz := lt_of_heap Z3.out
  have fz := free_of_heap Z3.out
  have SR := Lib.hid (setEv5 Z3.out (.int .i64 k) (.string u) (.string t) (.string rw_) (.string v))
  go_wp2_with fail
  generalize (((((w2.setCell ⟨w.heap.size + 1, 0, none⟩ (.int .i64 k)).setCell ⟨w.heap.size + 1, 1, none⟩ (.string u)).setCell ⟨w.heap.size + 1, 2, none⟩ (.string t)).setCell ⟨w.heap.size + 1, 3, none⟩ (.string rw_)).setCell ⟨w.heap.size + 1, 4, none⟩ (.string v)) = w9 at SR ⊢
  obtain ⟨SR1, SR2⟩ := SR.out
  exact ret_cells rfl rfl ((heap_alloc_old w9 _ (lt_of_heap SR1)).trans SR1) Tryz.underlying51 rfl (by kernel_rfl) rfl rfl (HP.out _ _ ⟨rfl, ext_alloc _ (ext_of ((ext_iff.1 X3.out).grown SR2 (ext_iff.1 X3.out).size (fun j e => by cases e; omega)))⟩)
theorem fopen_any (e : Ev) (r : Rec) (w : World) (V : Blk) (vb n : Nat) (sec : ByteArray) (many : ByteArray → Nat) (has : ByteArray → Bool) (hv : vaultIn w V vb n sec many has) (hG : Glob w V) (h : isTold sec r e) (hm : r.gen ≤ (many r.subject : Nat)) :
    Calls Tryz.prog 22 #[.pointer (some ⟨vb, 0, none⟩), .agg (recV r)] w (OpenPost w many has r e) := by
  cases hl : lostR many has r with
  | true => exact fopen_lost e r w V vb n sec many has hv h hm hl
  | false =>
    by_cases hk : e.kind = 3
    · exact fopen_gone e r w V vb sec many has hG h hk
    · exact fopen_kept e r w V vb n sec many has hv hG h hm hk hl
end Go.Proofs.YtgckpfeeioljeaaGreatDoor
namespace Go.Proofs.YtgckpfeeioljeaaGreatDoor

/-- A source, the events that were done, and its rows behind each. -/
structure RunM where
  S : SrcM
  ok : List Ev
  rows : List (List Cell)
def run1 (sec : ByteArray) (R : RunM) (e : Ev) : RunM := if doX R.S e = 0 then ⟨doS sec R.S e, R.ok ++ [e], R.rows ++ [sortC (doS sec R.S e).T]⟩ else R
def R0 : RunM := ⟨S0, [], [[]]⟩
def runM (sec : ByteArray) (l : List Ev) : RunM := l.foldl (run1 sec) R0
theorem runM_snoc (sec : ByteArray) (l : List Ev) (e : Ev) : runM sec (l ++ [e]) = run1 sec (runM sec l) e := by unfold runM; rw [List.foldl_append]; rfl
theorem runM_take (sec : ByteArray) (l : List Ev) (k : Nat) (e : Ev) (h : l[k]? = some e) : runM sec (l.take (k + 1)) = run1 sec (runM sec (l.take k)) e := by
  rw [List.take_add_one, h, Option.toList_some, runM_snoc]
/-- Whether a subject is forgotten in there. -/
def goneIn (l : List Ev) (s : ByteArray) : Bool := l.any fun e => decide (e.kind = 3) && decide (txt e.subject = txt s)
theorem goneIn_append (l m : List Ev) (s : ByteArray) : goneIn (l ++ m) s = (goneIn l s || goneIn m s) := List.any_append
theorem goneIn_one (e : Ev) (s : ByteArray) : goneIn [e] s = (decide (e.kind = 3) && decide (txt e.subject = txt s)) := by simp [goneIn]
theorem goneIn_nil (s : ByteArray) : goneIn [] s = false := rfl
theorem goneIn_cons (e : Ev) (l : List Ev) (s : ByteArray) : goneIn (e :: l) s = ((decide (e.kind = 3) && decide (txt e.subject = txt s)) || goneIn l s) := rfl
/-- What holds of a source. -/
structure Inv (sec : ByteArray) (S : SrcM) (ok : List Ev) : Prop where
  len : S.L.length = ok.length
  told : ∀ (i : Nat) (r : Rec) (e : Ev), S.L[i]? = some r → ok[i]? = some e → isTold sec r e ∧ r.seq = (i : Int) + 1 ∧ r.prev = headR (S.L.take i) ∧ r.gen ≤ (S.many r.subject : Nat) ∧ lostR S.many S.has r = (decide (e.kind ≠ 3) && goneIn (ok.drop (i + 1)) e.subject)
  key : ∀ s, S.has s = true → 1 ≤ S.many s
  cnt : ∀ s, S.many s ≤ S.L.length
  once : Once S.T
  own : ∀ c ∈ S.T, S.has c.subject = true ∧ rightE okV ⟨1, c.subject, c.table, c.row, c.value⟩ = true
theorem Inv.start (sec : ByteArray) : Inv sec S0 [] :=
  ⟨rfl, (fun _ _ _ h => by cases h), (fun _ h => by cases h), (fun _ => Nat.le_refl 0), List.Pairwise.nil, (fun _ h => by cases h)⟩
theorem tellX_right {has : ByteArray → Bool} {e : Ev} (h : tellX has e = 0) : rightE okV e = true ∧ (e.kind = 3 → has e.subject = true) := by
  unfold tellX at h
  cases hr : rightE okV e with
  | false => rw [hr, if_pos rfl] at h; cases h
  | true =>
    rw [hr, if_neg (by simp)] at h
    refine ⟨rfl, fun hk => ?_⟩
    cases hh : has e.subject with
    | true => rfl
    | false => rw [if_pos ⟨hk, hh⟩] at h; cases h
theorem doX_tell {S : SrcM} {e : Ev} (h : doX S e = 0) : tellX S.has e = 0 ∧ (e.kind = 1 → ∀ c, findT (ek e) S.T = some c → txt c.subject = txt e.subject) ∧ (e.kind = 2 → ∃ c, findT (ek e) S.T = some c ∧ txt c.subject = txt e.subject) := by
  unfold doX at h
  split at h
  · cases h
  · rename_i h1
    split at h
    · cases h
    · rename_i h2
      refine ⟨h, fun hk c hc => ?_, fun hk => ?_⟩
      · rw [hc] at h1
        simp only [Option.isSome_some, Option.getD_some, true_and] at h1
        exact Classical.byContradiction fun hn => h1 ⟨hk, hn⟩
      · have h3 := Classical.byContradiction fun hn => h2 ⟨hk, hn⟩
        obtain ⟨c, hc⟩ := Option.isSome_iff_exists.1 h3.1
        rw [hc] at h3
        exact ⟨c, hc, h3.2⟩
theorem toldR_fields (sec : ByteArray) (many : ByteArray → Nat) (has : ByteArray → Bool) (L : List Rec) (e : Ev) :
    (toldR sec many has L e).seq = (L.length : Int) + 1 ∧ (toldR sec many has L e).subject = e.subject ∧ (toldR sec many has L e).prev = headR L ∧ (toldR sec many has L e).gen = (if e.kind = 3 then 0 else (makeN many has e.subject : Int)) := by
  unfold toldR
  by_cases hk : e.kind = 3
  · rw [if_pos hk, if_pos hk]; exact ⟨rfl, rfl, rfl, rfl⟩
  · rw [if_neg hk, if_neg hk]; exact ⟨rfl, rfl, rfl, rfl⟩
theorem stepT_mem {e : Ev} {T : List Cell} {c : Cell} (hc : c ∈ stepT e T) : c ∈ T ∨ (e.kind = 1 ∧ c = cellE e) := by
  unfold stepT at hc
  split at hc
  · rename_i hk
    rcases List.mem_cons.1 hc with h | h
    · exact .inr ⟨hk, h⟩
    · exact .inl (List.mem_filter.1 h).1
  · split at hc
    · split at hc
      · exact .inl (List.mem_filter.1 hc).1
      · exact .inl hc
    · exact .inl (List.mem_filter.1 hc).1
theorem doS_yes {sec : ByteArray} {S : SrcM} {e : Ev} (h : doX S e = 0) : doS sec S e = ⟨toldMany S.many S.has e, toldHas S.has e, S.L ++ [toldR sec S.many S.has S.L e], stepT e S.T⟩ := if_pos h
theorem doS_no {sec : ByteArray} {S : SrcM} {e : Ev} (h : doX S e ≠ 0) : doS sec S e = S := if_neg h
theorem toldHas_eq (has : ByteArray → Bool) (e : Ev) : toldHas has e e.subject = decide (e.kind ≠ 3) := updS_same ..
theorem Inv.step {sec : ByteArray} {S : SrcM} {ok : List Ev} (h : Inv sec S ok) {e : Ev} (hx : doX S e = 0) : Inv sec (doS sec S e) (ok ++ [e]) := by
  obtain ⟨hT, hput, hdel⟩ := doX_tell hx
  obtain ⟨hR, hG⟩ := tellX_right hT
  have hkind := kind_cases hR
  rw [doS_yes hx]
  have hmono : ∀ s, S.many s ≤ toldMany S.many S.has e s := fun s => by
    unfold toldMany
    split
    · exact Nat.le_refl _
    · by_cases hs : s = e.subject
      · rw [hs, updS_same]; unfold makeN; split <;> omega
      · rw [updS_other _ _ hs]; exact Nat.le_refl _
  refine ⟨?_, ?_, ?_, ?_, ?_, ?_⟩
  · show (S.L ++ [_]).length = (ok ++ [e]).length
    simp [h.len]
  · intro i r x hr hxi
    dsimp only at hr ⊢
    by_cases hi : i < S.L.length
    · rw [List.getElem?_append_left hi] at hr
      rw [List.getElem?_append_left (by rw [← h.len]; exact hi)] at hxi
      obtain ⟨t1, t2, t3, t4, t5⟩ := h.told i r x hr hxi
      refine ⟨t1, t2, ?_, ?_, ?_⟩
      · rw [List.take_append_of_le_length (Nat.le_of_lt hi)]; exact t3
      · have := hmono r.subject; omega
      · rw [List.drop_append_of_le_length (by rw [← h.len]; omega), goneIn_append, goneIn_one]
        unfold lostR at t5 ⊢
        have hs := t1.subj
        have hg := t1.gen_iff
        by_cases hk3 : x.kind = 3
        · have hg0 := hg.2 hk3
          simp [hg0, hk3]
        · have hg0 : r.gen ≠ 0 := fun e0 => hk3 (hg.1 e0)
          simp only [hg0, hk3, ne_eq, not_false_eq_true, decide_true, Bool.true_and] at t5 ⊢
          unfold toldMany toldHas
          by_cases hsub : r.subject = e.subject
          · have hxs : x.subject = e.subject := hs.symm.trans hsub
            rw [hsub] at t4 t5
            rw [hxs] at t5
            rw [hsub, hxs, updS_same, ← t5]
            by_cases he3 : e.kind = 3
            · rw [if_pos he3]; simp [he3]
            · rw [if_neg he3, updS_same]
              unfold makeN
              cases hh : S.has e.subject with
              | true => simp [he3]
              | false => simp [he3]; omega
          · have hm : (if e.kind = 3 then S.many else updS S.many e.subject (makeN S.many S.has e.subject)) r.subject = S.many r.subject := by
              split
              · rfl
              · exact updS_other _ _ hsub
            rw [hm, updS_other _ _ hsub, t5]
            have : decide (txt e.subject = txt x.subject) = false := decide_eq_false (fun e1 => hsub (by rw [hs]; exact (txt_inj e1).symm))
            rw [this]; simp
    · have hil : i = S.L.length := by
        have := (List.getElem?_eq_some_iff.1 hr).1
        simp at this; omega
      subst hil
      rw [List.getElem?_append_right (Nat.le_refl _)] at hr
      rw [h.len, List.getElem?_append_right (Nat.le_refl _)] at hxi
      simp only [Nat.sub_self, List.getElem?_cons_zero, Option.some.injEq] at hr hxi
      subst hr hxi
      obtain ⟨f1, f2, f3, f4⟩ := toldR_fields sec S.many S.has S.L e
      refine ⟨toldR_is sec S.many S.has S.L hR (h.key e.subject), f1, ?_, ?_, ?_⟩
      · rw [f3, List.take_left]
      · rw [f2, f4]
        unfold toldMany
        split
        · omega
        · rw [updS_same]; omega
      · unfold lostR
        rw [f2, f4, List.drop_eq_nil_of_le (by simp [h.len]), goneIn_nil, Bool.and_false]
        unfold toldMany toldHas
        by_cases he3 : e.kind = 3
        · simp [he3]
        · rw [if_neg he3, if_neg he3, updS_same, updS_same]; simp [he3]
  · intro s hs
    dsimp only at hs ⊢
    by_cases hse : s = e.subject
    · subst hse
      unfold toldHas at hs
      rw [updS_same] at hs
      have he3 : e.kind ≠ 3 := of_decide_eq_true hs
      unfold toldMany
      rw [if_neg he3, updS_same]
      unfold makeN
      cases hh : S.has e.subject with
      | true => have := h.key _ hh; simp; omega
      | false => simp
    · unfold toldHas at hs
      rw [updS_other _ _ hse] at hs
      have := h.key s hs
      have := hmono s; omega
  · intro s
    show toldMany S.many S.has e s ≤ (S.L ++ [_]).length
    have := h.cnt s
    rw [List.length_append, List.length_singleton]
    unfold toldMany
    split
    · omega
    · by_cases hse : s = e.subject
      · subst hse
        rw [updS_same]; unfold makeN; split <;> omega
      · rw [updS_other _ _ hse]; omega
  · exact h.once.step e
  · intro c hc
    dsimp only at hc ⊢
    rcases stepT_mem hc with h1 | ⟨h1, rfl⟩
    · obtain ⟨o1, o2⟩ := h.own c h1
      refine ⟨?_, o2⟩
      by_cases hse : c.subject = e.subject
      · unfold toldHas
        rw [hse, updS_same]
        by_cases he3 : e.kind = 3
        · exfalso
          unfold stepT at hc
          rw [if_neg (by omega), if_neg (by omega)] at hc
          have := (List.mem_filter.1 hc).2
          rw [hse] at this
          simp at this
        · simp [he3]
      · unfold toldHas; rw [updS_other _ _ hse]; exact o1
    · refine ⟨?_, ?_⟩
      · show toldHas S.has e e.subject = true
        rw [toldHas_eq, h1]; rfl
      · show rightE okV ⟨1, e.subject, e.table, e.row, e.value⟩ = true
        rw [← h1]; exact hR
theorem Inv.run {sec : ByteArray} : ∀ (l : List Ev) (R : RunM), Inv sec R.S R.ok → Inv sec (l.foldl (run1 sec) R).S (l.foldl (run1 sec) R).ok
  | [], _, h => h
  | e :: l, R, h => by
    refine Inv.run l (run1 sec R e) ?_
    unfold run1
    split
    · rename_i hx; exact h.step hx
    · exact h
theorem inv_run (sec : ByteArray) (l : List Ev) : Inv sec (runM sec l).S (runM sec l).ok := Inv.run l R0 (Inv.start sec)
theorem run_len (sec : ByteArray) : ∀ (l : List Ev) (R : RunM), (l.foldl (run1 sec) R).ok.length ≤ R.ok.length + l.length
  | [], _ => Nat.le_refl _
  | e :: l, R => by
    have := run_len sec l (run1 sec R e)
    have h1 : (run1 sec R e).ok.length ≤ R.ok.length + 1 := by unfold run1; split <;> simp
    rw [List.foldl_cons, List.length_cons]; omega
theorem ok_len (sec : ByteArray) (l : List Ev) : (runM sec l).ok.length ≤ l.length := by have := run_len sec l R0; rw [show R0.ok.length = 0 from rfl, Nat.zero_add] at this; exact this
end Go.Proofs.YtgckpfeeioljeaaGreatDoor
