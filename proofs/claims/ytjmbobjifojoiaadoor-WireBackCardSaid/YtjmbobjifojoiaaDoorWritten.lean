/- oubliettekeep.written (the walk). -/
import Derived.Test.YtjmbobjifojoiaaDoorProg
import Derived.Test.YtjmbobjifojoiaaDoorParse
import Derived.Test.YtjmbobjifojoiaaDoorWrite
namespace Go.Proofs.YtjmbobjifojoiaaDoor
open Go.RowKit

def goneR : Rec := ⟨1, ⟨#[97, 110, 110]⟩, 0, ⟨#[0, 0, 0, 0, 0, 0, 0, 0, 0, 0, 0, 0, 0, 0, 0, 0]⟩, ⟨#[103, 111, 110, 101, 32, 97, 110, 110]⟩⟩
theorem gone_fit : fitB goneR = true := by decide +kernel
theorem gone_bytes : writeL mkB goneR = mkB goneR ++ ([1, 3, 97, 110, 110] ++ [0, 0, 0, 0, 0, 0, 0, 0, 0, 0, 0, 0, 0, 0, 0, 0, 0, 0, 8, 103, 111, 110, 101, 32, 97, 110, 110]) := by
  unfold writeL
  rw [show ([byN goneR.seq, byN (goneR.subject.size : Nat)] ++ (bs goneR.subject ++ ([byN goneR.gen] ++ (bs goneR.prev ++ ([byN ((goneR.body.size : Int) / 256), byN (goneR.body.size : Nat)] ++ bs goneR.body))))) = [1, 3, 97, 110, 110] ++ [0, 0, 0, 0, 0, 0, 0, 0, 0, 0, 0, 0, 0, 0, 0, 0, 0, 0, 8, 103, 111, 110, 101, 32, 97, 110, 110] from by decide +kernel]
theorem cut_mid (s : List UInt8) (a b : Nat) : (mkS s).extract a b = mkS ((s.drop a).take (b - a)) := by
  apply ByteArray.ext
  rw [ByteArray.data_extract, ← Array.toList_inj, Array.toList_extract]
  simp only [mkS, List.extract_eq_take_drop]
theorem gone_facts : (⟨(writeL mkB goneR).toArray⟩ : ByteArray).size = 48 ∧ (⟨(writeL mkB goneR).toArray⟩ : ByteArray).extract 16 21 = ⟨#[1, 3, 97, 110, 110]⟩ ∧ (⟨(writeL mkB goneR).toArray⟩ : ByteArray).extract 0 16 = ⟨(mkB goneR).toArray⟩ := by
  have hl := mkB_length goneR
  rw [gone_bytes]
  generalize mkB goneR = m at hl
  refine ⟨?_, ?_, ?_⟩
  · refine (mkS_size _).trans ?_
    simp [hl]
  · refine (cut_mid _ 16 21).trans ?_
    rw [List.drop_append, hl, List.drop_eq_nil_of_le (by omega)]
    rfl
  · refine (cut_mid _ 0 16).trans ?_
    rw [List.drop_zero, List.take_append, hl, List.take_of_length_le (by omega)]
    simp [mkS]
theorem gone_answ : answP ⟨(writeL mkB goneR).toArray⟩ = .tuple #[.agg (recV goneR), .nilIface] := by
  have h := parse_write gone_fit
  unfold answP
  change (if parseOK (mkS (writeL mkB goneR)) = true then Value.tuple #[.agg (recV (parseR (mkS (writeL mkB goneR)))), .nilIface] else _) = _
  rw [h.1, h.2, if_pos rfl]
set_option maxRecDepth 100000 in
set_option maxHeartbeats 1000000 in
theorem written_any (w : World) (hR : Rounds w) : Calls Tryd.prog 30 #[] w (Res true w) := by
  have R := Lib.hid hR
  clear hR
  have WW := fun w h => wwrite_any goneR w (by decide) h
  have FM := fun w h => fmark_any goneR w (by decide) h
  obtain ⟨hz, hx1, hx2⟩ := gone_facts
  have PA := fun w h => wparse_any ⟨(writeL mkB goneR).toArray⟩ w (by rw [hz]; decide) h
  rw [gone_answ] at PA
  rw [gone_fit, if_pos rfl] at WW
  generalize (⟨(writeL mkB goneR).toArray⟩ : ByteArray) = T at *
  generalize (⟨(mkB goneR).toArray⟩ : ByteArray) = M at *
  unfold recV goneR at WW FM PA
  dsimp only at WW FM PA
  go_enter Tryd.func30, Tryd.ntmps30
  go_wp2_with fail
  have H1 := Lib.hid (heap_alloc_at w (.cells #[.int .i64 1, .string ⟨#[97, 110, 110]⟩, .int .i64 0, .string ⟨#[0, 0, 0, 0, 0, 0, 0, 0, 0, 0, 0, 0, 0, 0, 0, 0]⟩, .string ⟨#[103, 111, 110, 101, 32, 97, 110, 110]⟩] 45))
  have X1 := Lib.hid (ext_alloc (.cells #[.int .i64 1, .string ⟨#[97, 110, 110]⟩, .int .i64 0, .string ⟨#[0, 0, 0, 0, 0, 0, 0, 0, 0, 0, 0, 0, 0, 0, 0, 0]⟩, .string ⟨#[103, 111, 110, 101, 32, 97, 110, 110]⟩] 45) (ext_refl w))
  generalize w.alloc (.cells #[.int .i64 1, .string ⟨#[97, 110, 110]⟩, .int .i64 0, .string ⟨#[0, 0, 0, 0, 0, 0, 0, 0, 0, 0, 0, 0, 0, 0, 0, 0]⟩, .string ⟨#[103, 111, 110, 101, 32, 97, 110, 110]⟩] 45) = w1 at H1 X1 ⊢
  refine (WW _ (Rounds_ext R.out X1.out)).mono ?_
  rintro _ w2 ⟨rfl, hx⟩
  have H2 := Lib.hid (((ext_iff.1 hx).block _ (lt_of_heap H1.out)).trans H1.out)
  have X2 := Lib.hid (ext_trans X1.out hx)
  clear hx H1 X1 WW
  obtain ⟨c0, c1, c2, c3, c4⟩ := rec_cells (r := goneR) H2.out
  unfold goneR at c0 c1 c2 c3 c4
  dsimp only at c0 c1 c2 c3 c4
  have R2 := Lib.hid (Rounds_ext R.out X2.out)
  have lw := lt_of_heap H2.out
  go_wp2_with fail
  refine wp_region_ext (by kernel_rfl) (by kernel_rfl) ?_
  repeat (go_big_quiet_step ((go_at_call 75; refine (FM _ (Rounds_ext R2.out ⟨_, rfl⟩)).mono ?_; rintro _ _ ⟨rfl, hx⟩; exact ⟨rfl, ext_trans ⟨_, rfl⟩ hx⟩)))
  refine wpQuiet_nil ?_
  rintro _ ⟨x, rfl⟩
  have H3 := Lib.hid (((ext_iff.1 ⟨x, rfl⟩ : Below w2.heap.size w2 (ext w2 x)).block _ (lt_of_heap H2.out)).trans H2.out)
  have X3 := Lib.hid (ext_trans X2.out ⟨x, rfl⟩)
  generalize ext w2 x = w3 at H3 X3 ⊢
  clear H2 X2 R2 c0 c1 c2 c3 c4 FM lw
  go_wp2_with fail
  refine (PA _ (Rounds_ext R.out X3.out)).mono ?_
  rintro _ w4 ⟨rfl, hx⟩
  have H4 := Lib.hid (((ext_iff.1 hx).block _ (lt_of_heap H3.out)).trans H3.out)
  have X4 := Lib.hid (ext_trans X3.out hx)
  have lw4 := lt_of_heap H4.out
  clear hx H3 X3 PA
  obtain ⟨c0, c1, c2, c3, c4⟩ := rec_cells (r := goneR) H4.out
  unfold goneR at c0 c1 c2 c3 c4
  dsimp only at c0 c1 c2 c3 c4
  go_wp2_with fail
  go_ret
  exact ⟨by simp, ext_alloc _ X4.out⟩
end Go.Proofs.YtjmbobjifojoiaaDoor
