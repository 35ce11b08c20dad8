/- Records as bytes: plain lemmas. No program. · feed.Mark, package wire: Right, take, byte (the walks). -/
import Derived.Test.YtafdigdopeahdaaGreatDoorWords
import Derived.Test.YtafdigdopeahdaaGreatDoorProg
import Derived.Test.YtafdigdopeahdaaGreatDoorG3
import Derived.Test.YtafdigdopeahdaaGreatDoorG4
import Derived.Test.YtafdigdopeahdaaGreatDoorG13
namespace Go.Proofs.YtafdigdopeahdaaGreatDoor

/-- A record. -/
structure Rec where
  seq : Int
  subject : ByteArray
  gen : Int
  prev : ByteArray
  body : ByteArray
/-- A text's bytes. -/
def bs (s : ByteArray) : List UInt8 := s.data.toList
/-- Bytes as a text. -/
def mkS (l : List UInt8) : ByteArray := ⟨l.toArray⟩
theorem bs_mkS (l : List UInt8) : bs (mkS l) = l := rfl
theorem mkS_bs (s : ByteArray) : mkS (bs s) = s := rfl
theorem bs_length (s : ByteArray) : (bs s).length = s.size := by unfold bs; rw [Array.length_toList]; rfl
theorem mkS_size (l : List UInt8) : (mkS l).size = l.length := by rw [← bs_length, bs_mkS]
theorem bs_inj {s t : ByteArray} (h : bs s = bs t) : s = t := by rw [← mkS_bs s, h, mkS_bs]

/-- What of a record may be, but for the name. -/
def fits (r : Rec) : Prop := 1 ≤ r.seq ∧ r.seq ≤ 100 ∧ 1 ≤ r.subject.size ∧ r.subject.size ≤ 10 ∧ 0 ≤ r.gen ∧ r.gen ≤ 100 ∧ r.prev.size = 16 ∧ r.body.size ≤ 416

def byN (n : Int) : UInt8 := UInt8.ofNat (n % 256).toNat
theorem byN_val (n : Int) : ((byN n).toNat : Int) = n % 256 := by
  unfold byN; rw [UInt8.toNat_ofNat']; have := Int.emod_nonneg n (show (256 : Int) ≠ 0 by decide); have := Int.emod_lt_of_pos n (show (0 : Int) < 256 by decide); omega
theorem byN_of (b : UInt8) : byN (b.toNat : Int) = b := by
  have := b.toNat_lt
  apply UInt8.toNat_inj.1
  have := byN_val (b.toNat : Int)
  omega
theorem byN_nat (n : Int) (h0 : 0 ≤ n) (h1 : n < 256) : ((byN n).toNat : Int) = n := by rw [byN_val]; omega

section
variable (mk : Rec → List UInt8)
/-- A record's bytes. -/
def writeL (r : Rec) : List UInt8 :=
  mk r ++ ([byN r.seq, byN (r.subject.size : Nat)] ++ (bs r.subject ++ ([byN r.gen] ++ (bs r.prev ++ ([byN ((r.body.size : Int) / 256), byN (r.body.size : Nat)] ++ bs r.body)))))

/-- What is left, and whether it is bad. -/
structure St where
  s : List UInt8
  bad : Bool
def takeL (n : Nat) (st : St) : List UInt8 × St := if st.s.length < n then ([], ⟨st.s, true⟩) else (st.s.take n, ⟨st.s.drop n, st.bad⟩)
def byteL (st : St) : Nat × St := (match (takeL 1 st).1 with | [] => 0 | b :: _ => b.toNat, (takeL 1 st).2)
theorem takeL_ok {n : Nat} {l m : List UInt8} {b : Bool} (h : l.length = n) : takeL n ⟨l ++ m, b⟩ = (l, ⟨m, b⟩) := by
  unfold takeL
  rw [if_neg (by simp; omega)]
  simp [← h]
theorem byteL_ok {c : UInt8} {m : List UInt8} {b : Bool} : byteL ⟨[c] ++ m, b⟩ = (c.toNat, ⟨m, b⟩) := by
  unfold byteL; rw [takeL_ok (n := 1) (l := [c]) rfl]
theorem takeL_good {n : Nat} {st : St} (h : (takeL n st).2.bad = false) : st.bad = false ∧ (takeL n st).1.length = n ∧ st.s = (takeL n st).1 ++ (takeL n st).2.s := by
  unfold takeL at h ⊢
  split at h
  · cases h
  · rename_i hn; rw [if_neg hn]; exact ⟨h, by simp; omega, by simp⟩
theorem byteL_good {st : St} (h : (byteL st).2.bad = false) : st.bad = false ∧ ∃ c : UInt8, (byteL st).1 = c.toNat ∧ st.s = [c] ++ (byteL st).2.s := by
  unfold byteL at h ⊢
  obtain ⟨h1, h2, h3⟩ := takeL_good h
  refine ⟨h1, ?_⟩
  generalize (takeL 1 st).1 = t at h2 h3 ⊢
  match t, h2 with
  | [c], _ => exact ⟨c, rfl, h3⟩

/-- A record is read: the mark that stands there, it, what is left. -/
def oneL (st : St) : List UInt8 × Rec × St :=
  let m := takeL 16 st
  let q := byteL m.2
  let l := byteL q.2
  let u := takeL l.1 l.2
  let g := byteL u.2
  let p := takeL 16 g.2
  let a := byteL p.2
  let b := byteL a.2
  let y := takeL (a.1 * 256 + b.1) b.2
  (m.1, ⟨(q.1 : Nat), mkS u.1, (g.1 : Nat), mkS p.1, mkS y.1⟩, y.2)

theorem oneL_write (hmk : ∀ r, (mk r).length = 16) {r : Rec} (hr : fits r) (more : List UInt8) (b : Bool) : oneL ⟨writeL mk r ++ more, b⟩ = (mk r, r, ⟨more, b⟩) := by
  obtain ⟨h1, h2, h3, h4, h5, h6, h7, h8⟩ := hr
  unfold oneL writeL
  simp only [List.append_assoc]
  rw [takeL_ok (hmk r)]
  simp only [List.cons_append, List.nil_append]
  rw [← List.singleton_append, byteL_ok]
  dsimp only
  rw [← List.singleton_append (x := byN ((r.subject.size : Nat) : Int)), byteL_ok]
  dsimp only
  have e1 : (byN ((r.subject.size : Nat) : Int)).toNat = r.subject.size := by have := byN_nat (r.subject.size : Nat) (by omega) (by omega); omega
  rw [takeL_ok (by rw [bs_length, e1])]
  dsimp only
  rw [← List.singleton_append (x := byN r.gen), byteL_ok]
  dsimp only
  rw [takeL_ok (by rw [bs_length, h7])]
  dsimp only
  rw [← List.singleton_append (x := byN ((r.body.size : Int) / 256)), byteL_ok]
  dsimp only
  rw [← List.singleton_append (x := byN ((r.body.size : Nat) : Int)), byteL_ok]
  dsimp only
  have e2 : (byN ((r.body.size : Int) / 256)).toNat * 256 + (byN ((r.body.size : Nat) : Int)).toNat = r.body.size := by
    have ha := byN_val ((r.body.size : Int) / 256)
    have hb := byN_val ((r.body.size : Nat) : Int)
    omega
  rw [takeL_ok (by rw [bs_length, e2])]
  have e3 : ((byN r.seq).toNat : Int) = r.seq := byN_nat _ (by omega) (by omega)
  have e4 : ((byN r.gen).toNat : Int) = r.gen := byN_nat _ (by omega) (by omega)
  simp only [e3, e4, mkS_bs]

/-- What is read, and not bad, was written so. -/
theorem oneL_good {st : St} (h : (oneL st).2.2.bad = false) (hm : mk (oneL st).2.1 = (oneL st).1) : st.bad = false ∧ st.s = writeL mk (oneL st).2.1 ++ (oneL st).2.2.s := by
  unfold oneL at h hm ⊢
  dsimp only at h hm ⊢
  obtain ⟨b1, l1, e1⟩ := takeL_good h
  obtain ⟨b2, c2, v2, e2⟩ := byteL_good b1
  obtain ⟨b3, c3, v3, e3⟩ := byteL_good b2
  obtain ⟨b4, l4, e4⟩ := takeL_good b3
  obtain ⟨b5, c5, v5, e5⟩ := byteL_good b4
  obtain ⟨b6, l6, e6⟩ := takeL_good b5
  obtain ⟨b7, c7, v7, e7⟩ := byteL_good b6
  obtain ⟨b8, c8, v8, e8⟩ := byteL_good b7
  obtain ⟨b9, l9, e9⟩ := takeL_good b8
  refine ⟨b9, ?_⟩
  clear h b1 b2 b3 b4 b5 b6 b7 b8 b9
  generalize takeL 16 st = m at *
  generalize byteL m.2 = q at *
  generalize byteL q.2 = l at *
  generalize takeL l.1 l.2 = u at *
  generalize byteL u.2 = g at *
  generalize takeL 16 g.2 = p at *
  generalize byteL p.2 = a at *
  generalize byteL a.2 = b at *
  generalize takeL (a.1 * 256 + b.1) b.2 = y at *
  unfold writeL
  rw [hm]
  simp only [bs_mkS, mkS_size]
  rw [e9, e8, e7, e6, e5, e4, e3, e2, e1, l6, l1]
  simp only [v2, v3, v5, v7, v8, byN_of]
  have f1 : byN (((c3.toNat * 256 + c2.toNat : Nat) : Int) / 256) = c3 := by
    rw [show (((c3.toNat * 256 + c2.toNat : Nat) : Int) / 256) = (c3.toNat : Int) by have := c2.toNat_lt; omega, byN_of]
  have f2 : byN ((c3.toNat * 256 + c2.toNat : Nat) : Int) = c2 := by
    apply UInt8.toNat_inj.1
    have := byN_val ((c3.toNat * 256 + c2.toNat : Nat) : Int)
    have := c2.toNat_lt
    omega
  rw [f1, f2]
  simp only [List.append_assoc, List.cons_append, List.nil_append]
end
end Go.Proofs.YtafdigdopeahdaaGreatDoor
namespace Go.Proofs.YtafdigdopeahdaaGreatDoor
open Go.RowKit

/-- A record's cells. -/
def recV (r : Rec) : Array Value := #[.int .i64 r.seq, .string r.subject, .int .i64 r.gen, .string r.prev, .string r.body]
def seqS (n : Int) : ByteArray := ⟨(numB n).toArray⟩
/-- A record's mark. -/
def mkB (r : Rec) : List UInt8 := markB 114 [seqS r.seq, r.subject, seqS r.gen, r.prev, r.body]
theorem mkB_length (r : Rec) : (mkB r).length = 16 := by unfold mkB markB; rw [List.length_take, sumB_length]; omega
theorem msg5 (k : UInt8) (a b c d e : ByteArray) : (markMsg k [a, b, c, d, e]).length = 41 + a.size + b.size + c.size + d.size + e.size := by
  have n8 : ∀ n : Int, (numB n).length = 8 := fun n => numTo_length _ _
  have hl : ∀ s : ByteArray, s.data.toList.length = s.size := fun s => by rw [Array.length_toList]; rfl
  unfold markMsg
  simp only [List.length_cons, List.length_nil, markTo, List.length_append, n8, hl, List.getD_eq_getElem?_getD]
  simp
  omega
theorem texts5 (w : World) (a b c d e : ByteArray) (t : TypeId) : textsAt (w.alloc (.cells #[.string a, .string b, .string c, .string d, .string e] t)) (some ⟨w.heap.size, 0, none⟩) [a, b, c, d, e] := by
  intro j u hj
  refine ⟨w.heap.size, 0, rfl, by simp, ?_⟩
  rw [Nat.zero_add, World.cell?_alloc_new]
  match j, hj with
  | 0, hj => cases hj; rfl
  | 1, hj => cases hj; rfl
  | 2, hj => cases hj; rfl
  | 3, hj => cases hj; rfl
  | 4, hj => cases hj; rfl
  | (j + 5), hj => simp at hj
theorem rec_cells {w : World} {b : Nat} {r : Rec} {t : TypeId} {f : Nat × Nat} (h : w.heap[b]? = some (.cells (recV r) t f)) :
    w.cell? ⟨b, 0, none⟩ = some (.int .i64 r.seq) ∧ w.cell? ⟨b, 1, none⟩ = some (.string r.subject) ∧ w.cell? ⟨b, 2, none⟩ = some (.int .i64 r.gen) ∧ w.cell? ⟨b, 3, none⟩ = some (.string r.prev) ∧ w.cell? ⟨b, 4, none⟩ = some (.string r.body) := by
  refine ⟨?_, ?_, ?_, ?_, ?_⟩ <;> (rw [cell_in, h]; rfl)

set_option maxRecDepth 100000 in
set_option maxHeartbeats 1000000 in
theorem fmark_any (r : Rec) (w : World) (hs : r.subject.size + r.prev.size + r.body.size ≤ 140737488350000) (hR : Rounds w) :
    Calls Tryz.prog 21 #[.agg (recV r)] w fun e w' => e = .returned (.string ⟨(mkB r).toArray⟩) ∧ ∃ x, w' = ext w x := by
  have R := Lib.hid hR
  clear hR
  have HM : Hid (mkB r = markB 114 [seqS r.seq, r.subject, seqS r.gen, r.prev, r.body]) := Lib.hid rfl
  have hlen : (markMsg 114 [seqS r.seq, r.subject, seqS r.gen, r.prev, r.body]).length ≤ 140737488355000 := by
    rw [msg5]
    have h8 : ∀ n, (seqS n).size = 8 := fun n => by show (numB n).toArray.size = 8; rw [List.size_toArray]; exact numTo_length _ _
    rw [h8, h8]; omega
  generalize mkB r = M at HM
  obtain ⟨q, s, g, p, b⟩ := r
  unfold recV
  dsimp only at HM hlen ⊢
  go_enter Tryz.func21, Tryz.ntmps21
  go_wp2_with fail
  have H1 := Lib.hid (heap_alloc_at w (.cells #[.int .i64 q, .string s, .int .i64 g, .string p, .string b] 36))
  have X1 := Lib.hid (ext_alloc (.cells #[.int .i64 q, .string s, .int .i64 g, .string p, .string b] 36) (ext_refl w))
  generalize w.alloc (.cells #[.int .i64 q, .string s, .int .i64 g, .string p, .string b] 36) = w1 at H1 X1 ⊢
  obtain ⟨c0, c1, c2, c3, c4⟩ := rec_cells (r := ⟨q, s, g, p, b⟩) H1.out
  dsimp only at c0 c1 c2 c3 c4
  have lw := lt_of_heap H1.out
  refine wp_region_tail 12 (by kernel_rfl) (by kernel_rfl) ?_
  simp only [List.take_succ_cons, List.take_zero, List.drop_succ_cons, List.drop_zero]
  repeat (go_big_quiet_step ((go_at_call 45; refine (num_any _ _).mono ?_; rintro _ _ ⟨rfl, hx⟩; exact ⟨rfl, ext_trans ⟨_, rfl⟩ hx⟩)))
  refine wpQuiet_nil ?_
  rintro _ ⟨x, rfl⟩
  have X2 := Lib.hid (ext_trans X1.out ⟨x, rfl⟩)
  generalize ext w1 x = w2 at X2 ⊢
  clear H1 X1 c0 c1 c2 c3 c4 lw
  have hT := texts5 w2 (seqS q) s (seqS g) p b 9
  have X3 := Lib.hid (ext_alloc (.cells #[.string (seqS q), .string s, .string (seqS g), .string p, .string b] 9) X2.out)
  have R3 := Rounds_ext R.out X3.out
  unfold seqS at hT X3 R3 hlen HM
  go_wp2_with fail
  refine (mark_any 114 114 rfl _ _ 5 rfl 5 _ hT hlen R3).mono ?_
  rintro _ w4 ⟨rfl, hx⟩
  have X4 := Lib.hid (ext_trans X3.out hx)
  clear hx hT X3 R3 X2
  rw [← HM.out]
  go_wp2_with fail
  go_ret
  exact ⟨rfl, X4.out⟩

/-- Whether a record may be written. -/
def fitB (r : Rec) : Bool := decide ((1 : Int) ≤ r.seq) && decide (r.seq ≤ 100) && nameB r.subject.data.toList && decide ((0 : Int) ≤ r.gen) && decide (r.gen ≤ 100) && decide ((r.prev.size : Int) = 16) && decide ((r.body.size : Int) ≤ 416)
theorem fits_of {r : Rec} (h : fitB r = true) : fits r := by
  unfold fitB at h
  simp only [Bool.and_eq_true, decide_eq_true_eq] at h
  obtain ⟨⟨⟨⟨⟨⟨h1, h2⟩, h3⟩, h4⟩, h5⟩, h6⟩, h7⟩ := h
  have := nameB_size h3
  unfold fits; omega
end Go.Proofs.YtafdigdopeahdaaGreatDoor
