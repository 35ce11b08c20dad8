/- Which texts are records: plain lemmas. No walk. · A record at a text's beginning: the same by places. Plain. · wire.Parse (the walk). · oubliettekeep.written (the walk). -/
import Derived.Test.YtgckpfeeioljeaaGreatDoorG39
import Derived.Test.YtgckpfeeioljeaaGreatDoorProg
import Derived.Test.YtgckpfeeioljeaaGreatDoorG20
import Derived.Test.YtgckpfeeioljeaaGreatDoorG37
namespace Go.Proofs.YtgckpfeeioljeaaGreatDoor

def parseOK (s : ByteArray) : Bool := okOne ⟨bs s, false⟩ && (oneL ⟨bs s, false⟩).2.2.s.isEmpty
def parseR (s : ByteArray) : Rec := (oneL ⟨bs s, false⟩).2.1
theorem okOne_iff (st : St) : okOne st = true ↔ (oneL st).2.2.bad = false ∧ fitB (oneL st).2.1 = true ∧ mkB (oneL st).2.1 = (oneL st).1 := by
  unfold okOne
  rw [Bool.and_eq_true, Bool.and_eq_true, ByteArray.toList_eq, ByteArray.toList_eq, beq_iff_eq]
  simp only [mkS, Bool.not_eq_true']
  exact and_assoc
theorem wparse_good {s : ByteArray} (h : parseOK s = true) : bs s = writeL mkB (parseR s) ∧ fitB (parseR s) = true := by
  unfold parseOK at h
  rw [Bool.and_eq_true, okOne_iff] at h
  obtain ⟨⟨h1, h2, h3⟩, h4⟩ := h
  have := (oneL_good mkB h1 h3).2
  have he : (oneL ⟨bs s, false⟩).2.2.s = [] := List.isEmpty_iff.1 h4
  dsimp only at this
  rw [he, List.append_nil] at this
  exact ⟨this, h2⟩
theorem parse_more {r : Rec} (h : fitB r = true) (more : List UInt8) : parseOK (mkS (writeL mkB r ++ more)) = more.isEmpty ∧ parseR (mkS (writeL mkB r ++ more)) = r := by
  unfold parseOK parseR
  have hk : okOne ⟨writeL mkB r ++ more, false⟩ = true := by rw [okOne_iff, oneL_write mkB mkB_length (fits_of h)]; exact ⟨rfl, h, rfl⟩
  rw [bs_mkS, hk, oneL_write mkB mkB_length (fits_of h)]
  exact ⟨rfl, rfl⟩
theorem parse_write {r : Rec} (h : fitB r = true) : parseOK (mkS (writeL mkB r)) = true ∧ parseR (mkS (writeL mkB r)) = r := by
  have := parse_more h []
  rwa [List.append_nil] at this
theorem parse_cut {r : Rec} (h : fitB r = true) (k : Nat) (hk : k < (writeL mkB r).length) : parseOK (mkS ((writeL mkB r).take k)) = false := by
  rw [← Bool.not_eq_true]
  intro hp
  obtain ⟨e, f⟩ := wparse_good hp
  rw [bs_mkS] at e
  have h1 := oneL_write mkB mkB_length (fits_of f) ((writeL mkB r).drop k) false
  rw [← e, List.take_append_drop] at h1
  have h2 := oneL_write mkB mkB_length (fits_of h) [] false
  rw [List.append_nil, h1] at h2
  have : (writeL mkB r).drop k = [] := congrArg (fun t => t.2.2.s) h2
  rw [List.drop_eq_nil_iff] at this
  omega
end Go.Proofs.YtgckpfeeioljeaaGreatDoor
namespace Go.Proofs.YtgckpfeeioljeaaGreatDoor

def kOf (s : List UInt8) : Nat := 18 + (s.getD 17 0).toNat
def nOf (s : List UInt8) : Nat := (s.getD (kOf s + 17) 0).toNat * 256 + (s.getD (kOf s + 18) 0).toNat
def recOf (s : List UInt8) : Rec := ⟨((s.getD 16 0).toNat : Nat), mkS ((s.drop 18).take ((s.getD 17 0).toNat)), ((s.getD (kOf s) 0).toNat : Nat), mkS ((s.drop (kOf s + 1)).take 16), mkS ((s.drop (kOf s + 19)).take (nOf s))⟩
def lenOK (s : List UInt8) : Prop := 18 ≤ s.length ∧ kOf s + 19 ≤ s.length ∧ kOf s + 19 + nOf s ≤ s.length
theorem takeL_drop (s : List UInt8) (a n : Nat) (b : Bool) (h : a + n ≤ s.length) : takeL n ⟨s.drop a, b⟩ = ((s.drop a).take n, ⟨s.drop (a + n), b⟩) := by
  unfold takeL
  rw [if_neg (by simp; omega), List.drop_drop]
theorem byteL_drop (s : List UInt8) (a : Nat) (b : Bool) (h : a < s.length) : byteL ⟨s.drop a, b⟩ = ((s.getD a 0).toNat, ⟨s.drop (a + 1), b⟩) := by
  unfold byteL
  rw [takeL_drop s a 1 b h]
  dsimp only
  have e : (s.drop a).take 1 = [s.getD a 0] := by
    rw [List.drop_eq_getElem_cons h, List.getD_eq_getElem?_getD, List.getElem?_eq_getElem h]
    rfl
  rw [e]
theorem oneL_places {s : List UInt8} (h : lenOK s) : oneL ⟨s, false⟩ = (s.take 16, recOf s, ⟨s.drop (kOf s + 19 + nOf s), false⟩) := by
  obtain ⟨h1, h2, h3⟩ := h
  have e0 : takeL 16 ⟨s, false⟩ = (s.take 16, ⟨s.drop 16, false⟩) := by
    have := takeL_drop s 0 16 false (by omega)
    rwa [List.drop_zero, Nat.zero_add] at this
  have hk : kOf s = 18 + (s.getD 17 0).toNat := rfl
  unfold oneL
  dsimp only
  rw [e0]
  dsimp only
  rw [byteL_drop s 16 _ (by omega)]
  dsimp only
  rw [byteL_drop s 17 _ (by omega)]
  dsimp only
  rw [takeL_drop s 18 _ _ (by omega)]
  dsimp only
  rw [← hk, byteL_drop s (kOf s) _ (by omega)]
  dsimp only
  rw [takeL_drop s (kOf s + 1) 16 _ (by omega)]
  dsimp only
  rw [show kOf s + 1 + 16 = kOf s + 17 from rfl, byteL_drop s (kOf s + 17) _ (by omega)]
  dsimp only
  rw [show kOf s + 17 + 1 = kOf s + 18 from rfl, byteL_drop s (kOf s + 18) _ (by omega)]
  dsimp only
  rw [show kOf s + 18 + 1 = kOf s + 19 from rfl]
  have hn : (s.getD (kOf s + 17) 0).toNat * 256 + (s.getD (kOf s + 18) 0).toNat = nOf s := rfl
  rw [hn, takeL_drop s (kOf s + 19) (nOf s) _ (by omega)]
  rfl
theorem getD_at (a : List UInt8) (c : UInt8) (b : List UInt8) (i : Nat) (h : a.length = i) : (a ++ ([c] ++ b)).getD i 0 = c := by
  subst h
  rw [List.getD_eq_getElem?_getD, List.getElem?_append_right (Nat.le_refl _), Nat.sub_self]; rfl
theorem lenOK_of {s : List UInt8} (h : (oneL ⟨s, false⟩).2.2.bad = false) : lenOK s := by
  unfold oneL at h
  dsimp only at h
  obtain ⟨b1, l1, e1⟩ := takeL_good h
  obtain ⟨b2, c2, v2, e2⟩ := byteL_good b1
  obtain ⟨b3, c3, v3, e3⟩ := byteL_good b2
  obtain ⟨b4, l4, e4⟩ := takeL_good b3
  obtain ⟨b5, c5, v5, e5⟩ := byteL_good b4
  obtain ⟨b6, l6, e6⟩ := takeL_good b5
  obtain ⟨b7, c7, v7, e7⟩ := byteL_good b6
  obtain ⟨b8, c8, v8, e8⟩ := byteL_good b7
  obtain ⟨b9, l9, e9⟩ := takeL_good b8
  clear h b1 b2 b3 b4 b5 b6 b7 b8 b9
  generalize takeL 16 ⟨s, false⟩ = m at *
  generalize byteL m.2 = q at *
  generalize byteL q.2 = l at *
  generalize takeL l.1 l.2 = u at *
  generalize byteL u.2 = g at *
  generalize takeL 16 g.2 = p at *
  generalize byteL p.2 = a at *
  generalize byteL a.2 = b at *
  generalize takeL (a.1 * 256 + b.1) b.2 = y at *
  rw [v2, v3] at l1
  rw [v7] at l6
  generalize m.1 = m1 at *
  generalize u.1 = u1 at *
  generalize p.1 = p1 at *
  generalize y.1 = y1 at *
  dsimp only at e9
  rw [e8, e7, e6, e5, e4, e3, e2, e1] at e9
  have g17 : s.getD 17 0 = c7 := by
    rw [e9, ← List.append_assoc]
    exact getD_at _ _ _ _ (by simp; omega)
  have hk : kOf s = 18 + c7.toNat := by unfold kOf; rw [g17]
  have g3 : s.getD (kOf s + 17) 0 = c3 := by
    rw [hk, e9]
    rw [show m1 ++ ([c8] ++ ([c7] ++ (u1 ++ ([c5] ++ (p1 ++ ([c3] ++ ([c2] ++ (y1 ++ y.2.s)))))))) = (m1 ++ [c8] ++ [c7] ++ u1 ++ [c5] ++ p1) ++ ([c3] ++ ([c2] ++ (y1 ++ y.2.s))) by simp only [List.append_assoc]]
    exact getD_at _ _ _ _ (by simp; omega)
  have g2 : s.getD (kOf s + 18) 0 = c2 := by
    rw [hk, e9]
    rw [show m1 ++ ([c8] ++ ([c7] ++ (u1 ++ ([c5] ++ (p1 ++ ([c3] ++ ([c2] ++ (y1 ++ y.2.s)))))))) = (m1 ++ [c8] ++ [c7] ++ u1 ++ [c5] ++ p1 ++ [c3]) ++ ([c2] ++ (y1 ++ y.2.s)) by simp only [List.append_assoc]]
    exact getD_at _ _ _ _ (by simp; omega)
  have hn : nOf s = c3.toNat * 256 + c2.toNat := by unfold nOf; rw [g3, g2]
  have hl := congrArg List.length e9
  simp only [List.length_append, List.length_cons, List.length_nil] at hl
  unfold lenOK
  omega
/-- A record stands at the beginning. -/
theorem okOne_places (s : List UInt8) : okOne ⟨s, false⟩ = true ↔ lenOK s ∧ fitB (recOf s) = true ∧ writeL mkB (recOf s) <+: s := by
  rw [okOne_iff]
  constructor
  · rintro ⟨h1, h2, h3⟩
    have hl := lenOK_of h1
    have hp := oneL_places hl
    have hg := oneL_good (mk := mkB) h1 h3
    rw [hp] at h2 hg
    exact ⟨hl, h2, ⟨_, hg.2.symm⟩⟩
  · rintro ⟨hl, hf, hpre⟩
    have hp := oneL_places hl
    rw [hp]
    refine ⟨rfl, hf, ?_⟩
    have hg := oneL_good (st := ⟨s, false⟩) (mk := fun _ => s.take 16) (by rw [hp]) (by rw [hp])
    rw [hp] at hg
    have hg := hg.2
    dsimp only at hg
    obtain ⟨more, hm⟩ := hpre
    unfold writeL at hg hm
    have hl16 : (s.take 16).length = 16 := by have := hl.1; simp; omega
    have h2 := congrArg (List.take 16) hm
    rw [List.append_assoc, List.take_append, mkB_length, Nat.sub_self, List.take_zero, List.append_nil, List.take_of_length_le (by rw [mkB_length]; omega)] at h2
    exact h2
theorem places_len {s : List UInt8} (h : lenOK s) : (writeL mkB (recOf s)).length = kOf s + 19 + nOf s := by
  have hp := oneL_places h
  have hg := oneL_good (st := ⟨s, false⟩) (mk := fun _ => s.take 16) (by rw [hp]) (by rw [hp])
  rw [hp] at hg
  have h2 := congrArg List.length hg.2
  dsimp only at h2
  have h3 : (writeL mkB (recOf s)).length = (writeL (fun _ => s.take 16) (recOf s)).length := by
    have : (s.take 16).length = 16 := by have := h.1; simp; omega
    simp only [writeL, List.length_append, mkB_length, this]
  rw [List.length_append, List.length_drop, ← h3] at h2
  have := h.2.2
  omega
end Go.Proofs.YtgckpfeeioljeaaGreatDoor
namespace Go.Proofs.YtgckpfeeioljeaaGreatDoor
open Go.RowKit

def answP (s : ByteArray) : Value := if parseOK s = true then .tuple #[.agg (recV (parseR s)), .nilIface] else .tuple #[.agg (recV zeroR), errV 3]
set_option maxRecDepth 100000 in
set_option maxHeartbeats 4000000 in
theorem wparse_any (s : ByteArray) (w : World) (hs : s.size ≤ 1048576) (hR : Rounds w) :
    Calls Tryz.prog 44 #[.string s] w fun r w' => r = .returned (answP s) ∧ ∃ x, w' = ext w x := by
  have R := Lib.hid hR
  clear hR
  have ON := fun rb w h hR => one_any ⟨bs s, false⟩ (by rw [bs_length]; exact hs) rb w h hR
  have HA : answP s = if (okOne ⟨bs s, false⟩ && (oneL ⟨bs s, false⟩).2.2.s.isEmpty) = true then .tuple #[.agg (recV (oneL ⟨bs s, false⟩).2.1), .nilIface] else .tuple #[.agg (recV zeroR), errV 3] := rfl
  generalize okOne ⟨bs s, false⟩ = ok at ON HA
  generalize oneL ⟨bs s, false⟩ = o at ON HA
  obtain ⟨m, ⟨q, u, g, p, b⟩, ⟨s', b'⟩⟩ := o
  unfold recV at ON
  dsimp only at ON HA
  rw [HA]
  clear HA
  go_enter Tryz.func44, Tryz.ntmps44
  go_wp2_with fail
  have HZ : Hid ((w.alloc (.cells #[.int .i64 0, .string ⟨#[]⟩, .int .i64 0, .string ⟨#[]⟩, .string ⟨#[]⟩] 55)).heap[w.heap.size]? = some (.cells #[.int .i64 0, .string ⟨#[]⟩, .int .i64 0, .string ⟨#[]⟩, .string ⟨#[]⟩] 55 (0, 0))) := Lib.hid (heap_alloc_at _ _)
  have BZ := Lib.hid ((Below.refl w.heap.size w).alloc (Nat.le_refl _) (.cells #[.int .i64 0, .string ⟨#[]⟩, .int .i64 0, .string ⟨#[]⟩, .string ⟨#[]⟩] 55))
  have ez : (w.alloc (.cells #[.int .i64 0, .string ⟨#[]⟩, .int .i64 0, .string ⟨#[]⟩, .string ⟨#[]⟩] 55)).heap.size = w.heap.size + 1 := by simp
  generalize w.alloc (.cells #[.int .i64 0, .string ⟨#[]⟩, .int .i64 0, .string ⟨#[]⟩, .string ⟨#[]⟩] 55) = wz at HZ BZ ez ⊢
  have r1 : Hid (readerAt (wz.alloc (.cells #[.string s, .bool false] 93)) (w.heap.size + 1) ⟨bs s, false⟩) := Lib.hid (by rw [← ez]; exact heap_alloc_at wz _)
  have HZ1 := Lib.hid ((heap_alloc_old wz (.cells #[.string s, .bool false] 93) (lt_of_heap HZ.out)).trans HZ.out)
  have B1 := Lib.hid (BZ.out.alloc BZ.out.size (.cells #[.string s, .bool false] 93))
  have R1 := Lib.hid (Rounds_ext R.out (ext_of B1.out))
  generalize wz.alloc (.cells #[.string s, .bool false] 93) = w1 at r1 HZ1 B1 R1 ⊢
  clear HZ BZ ez wz R
  refine (ON _ _ r1.out R1.out).mono ?_
  rintro _ w2 ⟨rfl, r2, g2⟩
  have HZ2 := Lib.hid ((g2.block w.heap.size (lt_of_heap HZ1.out) (by intro e; injection e with e; omega)).trans HZ1.out)
  have B2 := Lib.hid (B1.out.grown g2 B1.out.size (by rintro _ ⟨⟩; exact Nat.le_succ _))
  have r2 := Lib.hid r2
  clear g2 HZ1 B1 R1 r1 ON
  have HZ3 := Lib.hid ((heap_alloc_old w2 (.cells #[.int .i64 q, .string u, .int .i64 g, .string p, .string b] 55) (lt_of_heap HZ2.out)).trans HZ2.out)
  have r3 : Hid (readerAt (w2.alloc (.cells #[.int .i64 q, .string u, .int .i64 g, .string p, .string b] 55)) (w.heap.size + 1) ⟨s', b'⟩) := Lib.hid ((heap_alloc_old w2 (.cells #[.int .i64 q, .string u, .int .i64 g, .string p, .string b] 55) (lt_of_heap (show w2.heap[w.heap.size + 1]? = _ from r2.out))).trans r2.out)
  have E3 := Lib.hid (heap_alloc_at w2 (.cells #[.int .i64 q, .string u, .int .i64 g, .string p, .string b] 55))
  have B3 := Lib.hid (B2.out.alloc B2.out.size (.cells #[.int .i64 q, .string u, .int .i64 g, .string p, .string b] 55))
  obtain ⟨z0, z1, z2, z3, z4⟩ := rec_cells (r := zeroR) HZ3.out
  obtain ⟨e0, e1, e2, e3, e4⟩ := rec_cells (r := ⟨q, u, g, p, b⟩) E3.out
  have fz := free_of_heap HZ3.out
  have q0 := (reader_cells r3.out).1
  unfold zeroR at z0 z1 z2 z3 z4
  dsimp only at z0 z1 z2 z3 z4 e0 e1 e2 e3 e4 q0
  clear HZ2 B2 r2
  cases ok with
  | false =>
    go_wp2_with fail
    obtain ⟨S5, U5⟩ := set5r (by rfl) HZ3.out zeroR
    unfold zeroR at S5 U5
    dsimp only at S5 U5
    exact ret_cells rfl rfl S5 Tryz.underlying55 rfl (by kernel_rfl) rfl rfl ⟨rfl, ext_of (B3.out.grown U5 B3.out.size (by rintro _ ⟨⟩; exact Nat.le_refl _))⟩
  | true =>
    have hss : (mkS s').toList = s' := by rw [ByteArray.toList_eq]; rfl
    cases s' with
    | nil =>
      go_wp2_with fail
      obtain ⟨S5, U5⟩ := set5r (by rfl) HZ3.out ⟨q, u, g, p, b⟩
      dsimp only at S5 U5
      exact ret_cells rfl rfl S5 Tryz.underlying55 rfl (by kernel_rfl) rfl rfl ⟨rfl, ext_of (B3.out.grown U5 B3.out.size (by rintro _ ⟨⟩; exact Nat.le_refl _))⟩
    | cons c t =>
      go_wp2_with fail
      obtain ⟨S5, U5⟩ := set5r (by rfl) HZ3.out zeroR
      unfold zeroR at S5 U5
      dsimp only at S5 U5
      exact ret_cells rfl rfl S5 Tryz.underlying55 rfl (by kernel_rfl) rfl rfl ⟨rfl, ext_of (B3.out.grown U5 B3.out.size (by rintro _ ⟨⟩; exact Nat.le_refl _))⟩
end Go.Proofs.YtgckpfeeioljeaaGreatDoor
namespace Go.Proofs.YtgckpfeeioljeaaGreatDoor
open Go.RowKit

def goneR : Rec := ⟨1, ⟨#[97, 110, 110]⟩, 0, ⟨#[0, 0, 0, 0, 0, 0, 0, 0, 0, 0, 0, 0, 0, 0, 0, 0]⟩, ⟨#[103, 111, 110, 101, 32, 97, 110, 110]⟩⟩
theorem gone_fit : fitB goneR = true := by decide +kernel
theorem gone_bytes : writeL mkB goneR = mkB goneR ++ ([1, 3, 97, 110, 110] ++ [0, 0, 0, 0, 0, 0, 0, 0, 0, 0, 0, 0, 0, 0, 0, 0, 0, 0, 8, 103, 111, 110, 101, 32, 97, 110, 110]) := by
  unfold writeL
  rw [show ([byN goneR.seq, byN (goneR.subject.size : Nat)] ++ (bs goneR.subject ++ ([byN goneR.gen] ++ (bs goneR.prev ++ ([byN ((goneR.body.size : Int) / 256), byN (goneR.body.size : Nat)] ++ bs goneR.body))))) = [1, 3, 97, 110, 110] ++ [0, 0, 0, 0, 0, 0, 0, 0, 0, 0, 0, 0, 0, 0, 0, 0, 0, 0, 8, 103, 111, 110, 101, 32, 97, 110, 110] from by decide +kernel]
theorem cut_mid (s : List UInt8) (a b : Nat) : (mkS s).extract a b = mkS ((s.drop a).take (b - a)) := by
  apply ByteArray.ext
  rw [ByteArray.data_extract, ← Array.toList_inj, Array.toList_extract]
  simp only [mkS, List.extract_eq_take_drop]
theorem gone_facts : (⟨(writeL mkB goneR).toArray⟩ : ByteArray).size = 48 ∧ (⟨(writeL mkB goneR).toArray⟩ : ByteArray).extract 16 21 = ⟨#[1, 3, 97, 110, 110]⟩ ∧ (⟨(writeL mkB goneR).toArray⟩ : ByteArray).extract 0 16 = ⟨(mkB goneR).toArray⟩ := by
  have hl := mkB_length goneR
  rw [gone_bytes]
  generalize mkB goneR = m at hl
  refine ⟨?_, ?_, ?_⟩
  · refine (mkS_size _).trans ?_
    simp [hl]
  · refine (cut_mid _ 16 21).trans ?_
    rw [List.drop_append, hl, List.drop_eq_nil_of_le (by omega)]
    rfl
  · refine (cut_mid _ 0 16).trans ?_
    rw [List.drop_zero, List.take_append, hl, List.take_of_length_le (by omega)]
    simp [mkS]
theorem gone_answ : answP ⟨(writeL mkB goneR).toArray⟩ = .tuple #[.agg (recV goneR), .nilIface] := by
  have h := parse_write gone_fit
  unfold answP
  change (if parseOK (mkS (writeL mkB goneR)) = true then Value.tuple #[.agg (recV (parseR (mkS (writeL mkB goneR)))), .nilIface] else _) = _
  rw [h.1, h.2, if_pos rfl]
set_option maxRecDepth 100000 in
set_option maxHeartbeats 1000000 in
theorem written_any (w : World) (hR : Rounds w) : Calls Tryz.prog 9 #[] w (Res true w) := by
  have R := Lib.hid hR
  clear hR
  have WW := fun w h => wwrite_any goneR w (by decide) h
  have FM := fun w h => fmark_any goneR w (by decide) h
  obtain ⟨hz, hx1, hx2⟩ := gone_facts
  have PA := fun w h => wparse_any ⟨(writeL mkB goneR).toArray⟩ w (by rw [hz]; decide) h
  rw [gone_answ] at PA
  rw [gone_fit, if_pos rfl] at WW
  generalize (⟨(writeL mkB goneR).toArray⟩ : ByteArray) = T at *
  generalize (⟨(mkB goneR).toArray⟩ : ByteArray) = M at *
  unfold recV goneR at WW FM PA
  dsimp only at WW FM PA
  go_enter Tryz.func9, Tryz.ntmps9
  go_wp2_with fail
  have H1 := Lib.hid (heap_alloc_at w (.cells #[.int .i64 1, .string ⟨#[97, 110, 110]⟩, .int .i64 0, .string ⟨#[0, 0, 0, 0, 0, 0, 0, 0, 0, 0, 0, 0, 0, 0, 0, 0]⟩, .string ⟨#[103, 111, 110, 101, 32, 97, 110, 110]⟩] 55))
  have X1 := Lib.hid (ext_alloc (.cells #[.int .i64 1, .string ⟨#[97, 110, 110]⟩, .int .i64 0, .string ⟨#[0, 0, 0, 0, 0, 0, 0, 0, 0, 0, 0, 0, 0, 0, 0, 0]⟩, .string ⟨#[103, 111, 110, 101, 32, 97, 110, 110]⟩] 55) (ext_refl w))
  generalize w.alloc (.cells #[.int .i64 1, .string ⟨#[97, 110, 110]⟩, .int .i64 0, .string ⟨#[0, 0, 0, 0, 0, 0, 0, 0, 0, 0, 0, 0, 0, 0, 0, 0]⟩, .string ⟨#[103, 111, 110, 101, 32, 97, 110, 110]⟩] 55) = w1 at H1 X1 ⊢
  refine (WW _ (Rounds_ext R.out X1.out)).mono ?_
  rintro _ w2 ⟨rfl, hx⟩
  have H2 := Lib.hid (((ext_iff.1 hx).block _ (lt_of_heap H1.out)).trans H1.out)
  have X2 := Lib.hid (ext_trans X1.out hx)
  clear hx H1 X1 WW
  obtain ⟨c0, c1, c2, c3, c4⟩ := rec_cells (r := goneR) H2.out
  unfold goneR at c0 c1 c2 c3 c4
  dsimp only at c0 c1 c2 c3 c4
  have R2 := Lib.hid (Rounds_ext R.out X2.out)
  have lw := lt_of_heap H2.out
  go_wp2_with fail
  refine wp_region_ext (by kernel_rfl) (by kernel_rfl) ?_
  repeat (go_big_quiet_step ((go_at_call 43; refine (FM _ (Rounds_ext R2.out ⟨_, rfl⟩)).mono ?_; rintro _ _ ⟨rfl, hx⟩; exact ⟨rfl, ext_trans ⟨_, rfl⟩ hx⟩)))
  refine wpQuiet_nil ?_
  rintro _ ⟨x, rfl⟩
  have H3 := Lib.hid (((ext_iff.1 ⟨x, rfl⟩ : Below w2.heap.size w2 (ext w2 x)).block _ (lt_of_heap H2.out)).trans H2.out)
  have X3 := Lib.hid (ext_trans X2.out ⟨x, rfl⟩)
  generalize ext w2 x = w3 at H3 X3 ⊢
  clear H2 X2 R2 c0 c1 c2 c3 c4 FM lw
  go_wp2_with fail
  refine (PA _ (Rounds_ext R.out X3.out)).mono ?_
  rintro _ w4 ⟨rfl, hx⟩
  have H4 := Lib.hid (((ext_iff.1 hx).block _ (lt_of_heap H3.out)).trans H3.out)
  have X4 := Lib.hid (ext_trans X3.out hx)
  have lw4 := lt_of_heap H4.out
  clear hx H3 X3 PA
  obtain ⟨c0, c1, c2, c3, c4⟩ := rec_cells (r := goneR) H4.out
  unfold goneR at c0 c1 c2 c3 c4
  dsimp only at c0 c1 c2 c3 c4
  go_wp2_with fail
  go_ret
  exact ⟨by simp, ext_alloc _ X4.out⟩
end Go.Proofs.YtgckpfeeioljeaaGreatDoor
