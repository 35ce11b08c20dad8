/- The vault's Make (the walk). · Records as bytes: plain lemmas. No program. · feed.Mark, package wire: Right, take, byte (the walks). -/
import Derived.Test.YtnkmckdefiblhaaGreatDoorProg
import Derived.Test.YtnkmckdefiblhaaGreatDoorG5
import Derived.Test.YtnkmckdefiblhaaGreatDoorG9
import Derived.Test.YtnkmckdefiblhaaGreatDoorG2
import Derived.Test.YtnkmckdefiblhaaGreatDoorG1
import Derived.Test.YtnkmckdefiblhaaGreatDoorG3
namespace Go.Proofs.YtnkmckdefiblhaaGreatDoor
open Go.RowKit

theorem mapS.same {α : Type} {dat : α → DataW Unit} {R : Value → Option (DataW Unit × List MemPlace)} {w w' : World} {b n : Nat} {M : List (ByteArray × α)} (h : mapS dat R w b n M) (hb : w'.heap[b]? = w.heap[b]?) : mapS dat R w' b n M := by
  obtain ⟨es, ⟨es', clock, h1, h2⟩, hp⟩ := h.own
  exact ⟨⟨es, ⟨es', clock, hb.trans h1, h2⟩, hp⟩, h.once, h.small⟩
theorem vaultAt.same {w w' : World} {vb mb tb n : Nat} {sec : ByteArray} {M : List (ByteArray × I64)} {T : List (ByteArray × Txt)} (h : vaultAt w vb mb tb n sec M T) (h1 : w'.heap[vb]? = w.heap[vb]?) (h2 : w'.heap[mb]? = w.heap[mb]?) (h3 : w'.heap[tb]? = w.heap[tb]?) : vaultAt w' vb mb tb n sec M T :=
  ⟨h1.trans h.blk, h.many.same h2, h.there.same h3, h.ne1, h.ne2, h.ne3⟩
theorem vaultAt.mono {w : World} {vb mb tb n n' : Nat} {sec : ByteArray} {M : List (ByteArray × I64)} {T : List (ByteArray × Txt)} (h : vaultAt w vb mb tb n sec M T) (hn : n ≤ n') : vaultAt w vb mb tb n' sec M T :=
  ⟨h.blk, h.many.mono hn, h.there.mono hn, h.ne1, h.ne2, h.ne3⟩
/-- Nothing that was there has turned, but for those two blocks. -/
structure keptBut (w w' : World) (a b : Nat) : Prop where
  os : w'.os = w.os
  tape : w'.tape = w.tape
  output : w'.output = w.output
  size : w.heap.size ≤ w'.heap.size
  block : ∀ k, k < w.heap.size → k ≠ a → k ≠ b → w'.heap[k]? = w.heap[k]?
theorem keptBut.refl (w : World) (a b : Nat) : keptBut w w a b := ⟨rfl, rfl, rfl, Nat.le_refl _, fun _ _ _ _ => rfl⟩
theorem keptBut.trans {w1 w2 w3 : World} {a b : Nat} (h : keptBut w1 w2 a b) (g : keptBut w2 w3 a b) : keptBut w1 w3 a b :=
  ⟨g.os.trans h.os, g.tape.trans h.tape, g.output.trans h.output, Nat.le_trans h.size g.size, fun k hk h1 h2 => (g.block k (Nat.lt_of_lt_of_le hk h.size) h1 h2).trans (h.block k hk h1 h2)⟩
theorem keptBut.of_ext {w w' : World} {a b : Nat} (h : ∃ x, w' = ext w x) : keptBut w w' a b :=
  ⟨(ext_iff.1 h).os, (ext_iff.1 h).tape, (ext_iff.1 h).output, (ext_iff.1 h).size, fun k hk _ _ => (ext_iff.1 h).block k hk⟩
theorem keptBut.of_fst {w w' : World} {a b : Nat} (h : w.grownBy w' (some a)) : keptBut w w' a b :=
  ⟨h.os, h.tape, h.output, h.size, fun k hk h1 _ => h.block k hk (fun e => h1 (by injection e))⟩
theorem keptBut.of_snd {w w' : World} {a b : Nat} (h : w.grownBy w' (some b)) : keptBut w w' a b :=
  ⟨h.os, h.tape, h.output, h.size, fun k hk _ h2 => h.block k hk (fun e => h2 (by injection e))⟩
/-- A number as a map's element. -/
def mkI (x : Int) : I64 := if h : (Lit.int .i64 x).wf = true then ⟨x, h⟩ else ⟨0, by decide⟩
theorem mkI_val {x : Int} (h : 0 ≤ x ∧ x ≤ 1000000) : (mkI x).1 = x := by
  unfold mkI
  rw [dif_pos]
  unfold Lit.wf
  simp [IntKind.min, IntKind.max, IntKind.bits, IntKind.signed]
  omega
/-- A subject's key of a number. -/
def keyB (sec s : ByteArray) (n : Int) : List UInt8 := sumB (markB 118 [sec, s, ⟨(numB n).toArray⟩])
def keyT (sec s : ByteArray) (n : Int) : Txt := ⟨⟨(keyB sec s n).toArray⟩, by show (keyB sec s n).toArray.size ≤ _; rw [List.size_toArray]; unfold keyB; rw [sumB_length]; decide⟩
theorem msg3 (k : UInt8) (a b c : ByteArray) : (markMsg k [a, b, c]).length = 25 + a.size + b.size + c.size := by
  have n8 : ∀ n : Int, (numB n).length = 8 := fun n => numTo_length _ _
  have hl : ∀ s : ByteArray, s.data.toList.length = s.size := fun s => by rw [Array.length_toList]; rfl
  unfold markMsg
  simp only [List.length_cons, List.length_nil, markTo, List.length_append, n8, hl, List.getD_eq_getElem?_getD]
  simp
  omega
theorem texts3 (w : World) (a b c : ByteArray) (t : TypeId) : textsAt (w.alloc (.cells #[.string a, .string b, .string c] t)) (some ⟨w.heap.size, 0, none⟩) [a, b, c] := by
  intro j u hj
  refine ⟨w.heap.size, 0, rfl, by simp, ?_⟩
  rw [Nat.zero_add, World.cell?_alloc_new]
  match j, hj with
  | 0, hj => cases hj; rfl
  | 1, hj => cases hj; rfl
  | 2, hj => cases hj; rfl
  | (j + 3), hj => simp at hj
/-- What Make hands back, and what then is there. -/
def makeV (sec s : ByteArray) (m : Int) (f : Option Txt) : Value :=
  if nameB s.data.toList = true then
    match f with
    | some k => .tuple #[.int .i64 m, .string k.1, .nilIface]
    | none => .tuple #[.int .i64 (m + 1), .string (keyT sec s (m + 1)).1, .nilIface]
  else .tuple #[.int .i64 0, .string ⟨#[]⟩, errV 5]
def hadM (s : ByteArray) (M : List (ByteArray × I64)) : Int := ((findS s M).getD ⟨0, by decide⟩).1
def makeM (s : ByteArray) (M : List (ByteArray × I64)) (f : Option Txt) : List (ByteArray × I64) :=
  if nameB s.data.toList = true ∧ f = none then putS s (mkI (hadM s M + 1)) M else M
def makeT (sec s : ByteArray) (M : List (ByteArray × I64)) (T : List (ByteArray × Txt)) : List (ByteArray × Txt) :=
  if nameB s.data.toList = true ∧ findS s T = none then putS s (keyT sec s (hadM s M + 1)) T else T
set_option maxRecDepth 100000 in
set_option maxHeartbeats 4000000 in
theorem vmake_any (s : ByteArray) (w : World) (vb mb tb n : Nat) (sec : ByteArray) (M : List (ByteArray × I64)) (T : List (ByteArray × Txt)) (h : vaultAt w vb mb tb n sec M T) (hs : s.size ≤ 1048576) (hsec : sec.size ≤ 1048576) (hn : n ≤ 1000000) (hm : 0 ≤ hadM s M ∧ hadM s M < 1000000) (hR : Rounds w) (hr1 : 0 ≠ mb) :
    Calls Tryz.prog 151 #[.pointer (some ⟨vb, 0, none⟩), .string s] w fun r w' => r = .returned (makeV sec s (hadM s M) (findS s T)) ∧ vaultAt w' vb mb tb (n + 2) sec (makeM s M (findS s T)) (makeT sec s M T) ∧ keptBut w w' mb tb := by
  have NM := fun w => name_any s w (by omega)
  have hsl : s.size ≤ maxLen := by unfold maxLen; omega
  have hnl : n < maxLen := by unfold maxLen; omega
  have HV := Lib.hid h
  have hR := Lib.hid hR
  clear h
  have hm0 : ((findS s M).getD ⟨0, by decide⟩).1 = hadM s M := rfl
  have EM : ∀ f, makeM s M f = if nameB s.data.toList = true ∧ f = none then putS s (mkI (hadM s M + 1)) M else M := fun _ => rfl
  have ET : makeT sec s M T = if nameB s.data.toList = true ∧ findS s T = none then putS s (keyT sec s (hadM s M + 1)) T else T := rfl
  rw [ET, EM]
  clear ET EM
  generalize hadM s M = m at hm0 hm ⊢
  cases hb : nameB s.data.toList with
  | false =>
    have E1 : makeV sec s (m) (findS s T) = .tuple #[.int .i64 0, .string ⟨#[]⟩, errV 5] := by unfold makeV; rw [hb]; rfl
    have E2 : (if false = true ∧ findS s T = none then putS s (mkI (m + 1)) M else M) = M := rfl
    have E3 : (if false = true ∧ findS s T = none then putS s (keyT sec s (m + 1)) T else T) = T := rfl
    rw [E1, E2, E3]
    rw [hb] at NM
    clear E1 E2 E3 hb hm hs hsec hn
    go_enter Tryz.func151, Tryz.ntmps151
    go_wp2_with fail
    refine (NM _).mono ?_
    rintro _ w1 ⟨rfl, hx⟩
    have X1 := Lib.hid hx
    clear hx
    go_wp2_with fail
    go_ret3
    exact ⟨rfl, (HV.out.ext X1.out).mono (by omega), keptBut.of_ext X1.out⟩
  | true =>
    rw [hb] at NM
    cases hf : findS s T with
    | some k =>
      have E1 : makeV sec s (m) (some k) = .tuple #[.int .i64 (m), .string k.1, .nilIface] := by unfold makeV; rw [hb]; rfl
      have E2 : (if true = true ∧ some k = none then putS s (mkI (m + 1)) M else M) = M := if_neg (by simp)
      have E3 : (if true = true ∧ some k = none then putS s (keyT sec s (m + 1)) T else T) = T := if_neg (by simp)
      rw [E1, E2, E3]
      have hf := Lib.hid hf
      clear E1 E2 E3 hb hm hs hsec hn
      go_enter Tryz.func151, Tryz.ntmps151
      go_wp2_with fail
      refine (NM _).mono ?_
      rintro _ w1 ⟨rfl, hx⟩
      have X1 := Lib.hid hx
      have V1 := Lib.hid (HV.out.ext hx)
      obtain ⟨c0, c1, c2⟩ := V1.out.cells
      have l1 := V1.out.many.look elemI Tryz.underlying84 hsl
      have l2 := V1.out.there.look_ok elemT Tryz.underlying85 hsl
      have hvb := lt_of_heap V1.out.blk
      rw [hf.out] at l2
      rw [hm0] at l1
      clear hx
      obtain ⟨k, hk⟩ := k
      dsimp only [Option.getD, Option.isSome] at l2 ⊢
      go_wp2_with fail
      go_ret3
      exact ⟨rfl, V1.out.mono (by omega), keptBut.of_ext X1.out⟩
    | none =>
      have E1 : makeV sec s (m) none = .tuple #[.int .i64 (m + 1), .string (keyT sec s (m + 1)).1, .nilIface] := by unfold makeV; rw [hb]; rfl
      have E2 : (if true = true ∧ (none : Option Txt) = none then putS s (mkI (m + 1)) M else M) = putS s (mkI (m + 1)) M := if_pos ⟨rfl, rfl⟩
      have E3 : (if true = true ∧ (none : Option Txt) = none then putS s (keyT sec s (m + 1)) T else T) = putS s (keyT sec s (m + 1)) T := if_pos ⟨rfl, rfl⟩
      rw [E1, E2, E3]
      have hf := Lib.hid hf
      have hz : Hid ((mkI (m + 1)).1 = m + 1) := Lib.hid (mkI_val ⟨by omega, by omega⟩)
      clear E1 E2 E3 hb
      go_enter Tryz.func151, Tryz.ntmps151
      go_wp2_with fail
      refine (NM _).mono ?_
      rintro _ w1 ⟨rfl, hx⟩
      have X1 := Lib.hid hx
      have V1 := Lib.hid (HV.out.ext hx)
      obtain ⟨c0, c1, c2⟩ := V1.out.cells
      have l1 := V1.out.many.look elemI Tryz.underlying84 hsl
      have l2 := V1.out.there.look_ok elemT Tryz.underlying85 hsl
      have hvb := lt_of_heap V1.out.blk
      rw [hf.out] at l2
      rw [hm0] at l1
      dsimp only [Option.getD, Option.isSome] at l2
      clear hx
      obtain ⟨w2, hput, hmany, hg⟩ := V1.out.many.put elemI Tryz.underlying84 (mkI (m + 1)) hsl hnl
      have hfm : ((findS s (putS s (mkI (m + 1)) M)).getD ⟨0, by decide⟩).1 = m + 1 := by
        rw [show findS s (putS s (mkI (m + 1)) M) = some (mkI (m + 1)) from by unfold findS putS; simp]
        exact hz.out
      have V2 : Hid (vaultAt w2 vb mb tb (n + 1) sec (putS s (mkI (m + 1)) M) T) := Lib.hid ⟨(hg.block vb hvb (fun e => V1.out.ne2 (by injection e with e; exact e.symm))).trans V1.out.blk, hmany, (V1.out.there.kept hg (fun e => V1.out.ne1 (by injection e with e; exact e.symm))).mono (by omega), V1.out.ne1, V1.out.ne2, V1.out.ne3⟩
      have R2 : Hid (Rounds w2) := Lib.hid (by
        have R1 := Rounds_ext hR.out X1.out
        exact ⟨Nat.lt_of_lt_of_le R1.1 hg.size, fun i hi => by
          have := R1.2 i hi; rw [cell_in] at this ⊢; rw [hg.block _ R1.1 (fun e => hr1 (by injection e))]; exact this⟩)
      have K2 := Lib.hid ((keptBut.of_ext (a := mb) (b := tb) X1.out).trans (keptBut.of_fst hg))
      have hfm := Lib.hid hfm
      rw [hz.out] at hput
      obtain ⟨d0, d1, d2⟩ := V2.out.cells
      have l3 := V2.out.many.look elemI Tryz.underlying84 hsl
      rw [hfm.out] at l3
      have hvb2 := lt_of_heap V2.out.blk
      go_wp2_with fail
      clear l1 l2 l3 c0 c1 c2 hput hmany hg hvb V1 X1 HV
      refine wp_region_tail 7 (by kernel_rfl) (by kernel_rfl) ?_
      simp only [List.take_succ_cons, List.take_zero, List.drop_succ_cons, List.drop_zero]
      repeat (go_big_quiet_step ((go_at_call 25; refine (num_any _ _).mono ?_; rintro _ _ ⟨rfl, hx⟩; exact ⟨rfl, ext_trans ⟨_, rfl⟩ hx⟩)))
      refine wpQuiet_nil ?_
      rintro _ ⟨x, rfl⟩
      have X3 : Hid (∃ x', ext w2 x = ext w2 x') := Lib.hid ⟨x, rfl⟩
      generalize ext w2 x = w3 at X3 ⊢
      clear d0 d1 d2 hvb2
      have hT := texts3 w3 sec s ⟨(numB (m + 1)).toArray⟩ 9
      have X4 := Lib.hid (ext_alloc (.cells #[.string sec, .string s, .string ⟨(numB (m + 1)).toArray⟩] 9) X3.out)
      have R4 := Rounds_ext R2.out X4.out
      have hlen : (markMsg 118 [sec, s, ⟨(numB (m + 1)).toArray⟩]).length ≤ 140737488355000 := by
        rw [msg3]
        have h8 : (⟨(numB (m + 1)).toArray⟩ : ByteArray).size = 8 := by show (numB (m + 1)).toArray.size = 8; rw [List.size_toArray]; exact numTo_length _ _
        rw [h8]; omega
      go_wp2_with fail
      refine (mark_any 118 118 rfl _ _ 3 rfl 3 _ hT hlen R4).mono ?_
      rintro _ w5 ⟨rfl, hx⟩
      have X5 := Lib.hid (ext_trans X4.out hx)
      clear hx hT hlen
      go_wp2_with fail
      refine (sum_any ⟨(markB 118 [sec, s, ⟨(numB (m + 1)).toArray⟩]).toArray⟩ w5 (by show (markB 118 _).toArray.size ≤ _; rw [List.size_toArray]; unfold markB; rw [List.length_take]; omega) (Rounds_ext R2.out X5.out)).mono ?_
      rintro _ w6 ⟨rfl, hx⟩
      have X6 := Lib.hid (ext_trans X5.out hx)
      clear hx X5 X4 X3 R4
      rw [show (⟨(sumB (⟨(markB 118 [sec, s, ⟨(numB (m + 1)).toArray⟩]).toArray⟩ : ByteArray).data.toList).toArray⟩ : ByteArray) = (keyT sec s (m + 1)).1 from rfl]
      have V6 := Lib.hid (V2.out.ext X6.out)
      have K6 := Lib.hid (K2.out.trans (keptBut.of_ext X6.out))
      obtain ⟨d0, d1, d2⟩ := V6.out.cells
      have hvb6 := lt_of_heap V6.out.blk
      obtain ⟨w7, hput7, hth, hg7⟩ := V6.out.there.put elemT Tryz.underlying85 (keyT sec s (m + 1)) hsl (by unfold maxLen; omega)
      have V7 : Hid (vaultAt w7 vb mb tb (n + 2) sec (putS s (mkI (m + 1)) M) (putS s (keyT sec s (m + 1)) T)) := Lib.hid ⟨(hg7.block vb hvb6 (fun e => V6.out.ne3 (by injection e with e; exact e.symm))).trans V6.out.blk, (V6.out.many.kept hg7 (fun e => V6.out.ne1 (by injection e))).mono (by omega), hth, V6.out.ne1, V6.out.ne2, V6.out.ne3⟩
      have K7 := Lib.hid (K6.out.trans (keptBut.of_snd hg7))
      generalize hkk : (keyT sec s (m + 1)).1 = kk at hput7 ⊢
      have HKK := Lib.hid hkk
      clear hkk
      clear hth hg7
      go_wp2_with fail
      go_ret3
      exact ⟨by rw [HKK.out]; rfl, V7.out, K7.out⟩
end Go.Proofs.YtnkmckdefiblhaaGreatDoor
namespace Go.Proofs.YtnkmckdefiblhaaGreatDoor

/-- A record. -/
structure Rec where
  seq : Int
  subject : ByteArray
  gen : Int
  prev : ByteArray
  body : ByteArray
/-- A text's bytes. -/
def bs (s : ByteArray) : List UInt8 := s.data.toList
/-- Bytes as a text. -/
def mkS (l : List UInt8) : ByteArray := ⟨l.toArray⟩
theorem bs_mkS (l : List UInt8) : bs (mkS l) = l := rfl
theorem mkS_bs (s : ByteArray) : mkS (bs s) = s := rfl
theorem bs_length (s : ByteArray) : (bs s).length = s.size := by unfold bs; rw [Array.length_toList]; rfl
theorem mkS_size (l : List UInt8) : (mkS l).size = l.length := by rw [← bs_length, bs_mkS]
theorem bs_inj {s t : ByteArray} (h : bs s = bs t) : s = t := by rw [← mkS_bs s, h, mkS_bs]

/-- What of a record may be, but for the name. -/
def fits (r : Rec) : Prop := 1 ≤ r.seq ∧ r.seq ≤ 100 ∧ 1 ≤ r.subject.size ∧ r.subject.size ≤ 10 ∧ 0 ≤ r.gen ∧ r.gen ≤ 100 ∧ r.prev.size = 16 ∧ r.body.size ≤ 416

def byN (n : Int) : UInt8 := UInt8.ofNat (n % 256).toNat
theorem byN_val (n : Int) : ((byN n).toNat : Int) = n % 256 := by
  unfold byN; rw [UInt8.toNat_ofNat']; have := Int.emod_nonneg n (show (256 : Int) ≠ 0 by decide); have := Int.emod_lt_of_pos n (show (0 : Int) < 256 by decide); omega
section
variable (mk : Rec → List UInt8)
/-- A record's bytes. -/
def writeL (r : Rec) : List UInt8 :=
  mk r ++ ([byN r.seq, byN (r.subject.size : Nat)] ++ (bs r.subject ++ ([byN r.gen] ++ (bs r.prev ++ ([byN ((r.body.size : Int) / 256), byN (r.body.size : Nat)] ++ bs r.body)))))

/-- What is left, and whether it is bad. -/
structure St where
  s : List UInt8
  bad : Bool
def takeL (n : Nat) (st : St) : List UInt8 × St := if st.s.length < n then ([], ⟨st.s, true⟩) else (st.s.take n, ⟨st.s.drop n, st.bad⟩)
def byteL (st : St) : Nat × St := (match (takeL 1 st).1 with | [] => 0 | b :: _ => b.toNat, (takeL 1 st).2)
/-- A record is read: the mark that stands there, it, what is left. -/
def oneL (st : St) : List UInt8 × Rec × St :=
  let m := takeL 16 st
  let q := byteL m.2
  let l := byteL q.2
  let u := takeL l.1 l.2
  let g := byteL u.2
  let p := takeL 16 g.2
  let a := byteL p.2
  let b := byteL a.2
  let y := takeL (a.1 * 256 + b.1) b.2
  (m.1, ⟨(q.1 : Nat), mkS u.1, (g.1 : Nat), mkS p.1, mkS y.1⟩, y.2)

end
end Go.Proofs.YtnkmckdefiblhaaGreatDoor
namespace Go.Proofs.YtnkmckdefiblhaaGreatDoor
open Go.RowKit

/-- A record's cells. -/
def recV (r : Rec) : Array Value := #[.int .i64 r.seq, .string r.subject, .int .i64 r.gen, .string r.prev, .string r.body]
def seqS (n : Int) : ByteArray := ⟨(numB n).toArray⟩
/-- A record's mark. -/
def mkB (r : Rec) : List UInt8 := markB 114 [seqS r.seq, r.subject, seqS r.gen, r.prev, r.body]
theorem mkB_length (r : Rec) : (mkB r).length = 16 := by unfold mkB markB; rw [List.length_take, sumB_length]; omega
theorem msg5 (k : UInt8) (a b c d e : ByteArray) : (markMsg k [a, b, c, d, e]).length = 41 + a.size + b.size + c.size + d.size + e.size := by
  have n8 : ∀ n : Int, (numB n).length = 8 := fun n => numTo_length _ _
  have hl : ∀ s : ByteArray, s.data.toList.length = s.size := fun s => by rw [Array.length_toList]; rfl
  unfold markMsg
  simp only [List.length_cons, List.length_nil, markTo, List.length_append, n8, hl, List.getD_eq_getElem?_getD]
  simp
  omega
theorem texts5 (w : World) (a b c d e : ByteArray) (t : TypeId) : textsAt (w.alloc (.cells #[.string a, .string b, .string c, .string d, .string e] t)) (some ⟨w.heap.size, 0, none⟩) [a, b, c, d, e] := by
  intro j u hj
  refine ⟨w.heap.size, 0, rfl, by simp, ?_⟩
  rw [Nat.zero_add, World.cell?_alloc_new]
  match j, hj with
  | 0, hj => cases hj; rfl
  | 1, hj => cases hj; rfl
  | 2, hj => cases hj; rfl
  | 3, hj => cases hj; rfl
  | 4, hj => cases hj; rfl
  | (j + 5), hj => simp at hj
theorem rec_cells {w : World} {b : Nat} {r : Rec} {t : TypeId} {f : Nat × Nat} (h : w.heap[b]? = some (.cells (recV r) t f)) :
    w.cell? ⟨b, 0, none⟩ = some (.int .i64 r.seq) ∧ w.cell? ⟨b, 1, none⟩ = some (.string r.subject) ∧ w.cell? ⟨b, 2, none⟩ = some (.int .i64 r.gen) ∧ w.cell? ⟨b, 3, none⟩ = some (.string r.prev) ∧ w.cell? ⟨b, 4, none⟩ = some (.string r.body) := by
  refine ⟨?_, ?_, ?_, ?_, ?_⟩ <;> (rw [cell_in, h]; rfl)

set_option maxRecDepth 100000 in
set_option maxHeartbeats 1000000 in
theorem fmark_any (r : Rec) (w : World) (hs : r.subject.size + r.prev.size + r.body.size ≤ 140737488350000) (hR : Rounds w) :
    Calls Tryz.prog 94 #[.agg (recV r)] w fun e w' => e = .returned (.string ⟨(mkB r).toArray⟩) ∧ ∃ x, w' = ext w x := by
  have R := Lib.hid hR
  clear hR
  have HM : Hid (mkB r = markB 114 [seqS r.seq, r.subject, seqS r.gen, r.prev, r.body]) := Lib.hid rfl
  have hlen : (markMsg 114 [seqS r.seq, r.subject, seqS r.gen, r.prev, r.body]).length ≤ 140737488355000 := by
    rw [msg5]
    have h8 : ∀ n, (seqS n).size = 8 := fun n => by show (numB n).toArray.size = 8; rw [List.size_toArray]; exact numTo_length _ _
    rw [h8, h8]; omega
  generalize mkB r = M at HM
  obtain ⟨q, s, g, p, b⟩ := r
  unfold recV
  dsimp only at HM hlen ⊢
  go_enter Tryz.func94, Tryz.ntmps94
  go_wp2_with fail
  have H1 := Lib.hid (heap_alloc_at w (.cells #[.int .i64 q, .string s, .int .i64 g, .string p, .string b] 108))
  have X1 := Lib.hid (ext_alloc (.cells #[.int .i64 q, .string s, .int .i64 g, .string p, .string b] 108) (ext_refl w))
  generalize w.alloc (.cells #[.int .i64 q, .string s, .int .i64 g, .string p, .string b] 108) = w1 at H1 X1 ⊢
  obtain ⟨c0, c1, c2, c3, c4⟩ := rec_cells (r := ⟨q, s, g, p, b⟩) H1.out
  dsimp only at c0 c1 c2 c3 c4
  have lw := lt_of_heap H1.out
  refine wp_region_tail 12 (by kernel_rfl) (by kernel_rfl) ?_
  simp only [List.take_succ_cons, List.take_zero, List.drop_succ_cons, List.drop_zero]
  repeat (go_big_quiet_step ((go_at_call 25; refine (num_any _ _).mono ?_; rintro _ _ ⟨rfl, hx⟩; exact ⟨rfl, ext_trans ⟨_, rfl⟩ hx⟩)))
  refine wpQuiet_nil ?_
  rintro _ ⟨x, rfl⟩
  have X2 := Lib.hid (ext_trans X1.out ⟨x, rfl⟩)
  generalize ext w1 x = w2 at X2 ⊢
  clear H1 X1 c0 c1 c2 c3 c4 lw
  have hT := texts5 w2 (seqS q) s (seqS g) p b 9
  have X3 := Lib.hid (ext_alloc (.cells #[.string (seqS q), .string s, .string (seqS g), .string p, .string b] 9) X2.out)
  have R3 := Rounds_ext R.out X3.out
  unfold seqS at hT X3 R3 hlen HM
  go_wp2_with fail
  refine (mark_any 114 114 rfl _ _ 5 rfl 5 _ hT hlen R3).mono ?_
  rintro _ w4 ⟨rfl, hx⟩
  have X4 := Lib.hid (ext_trans X3.out hx)
  clear hx hT X3 R3 X2
  rw [← HM.out]
  go_wp2_with fail
  go_ret
  exact ⟨rfl, X4.out⟩

/-- Whether a record may be written. -/
def fitB (r : Rec) : Bool := decide ((1 : Int) ≤ r.seq) && decide (r.seq ≤ 100) && nameB r.subject.data.toList && decide ((0 : Int) ≤ r.gen) && decide (r.gen ≤ 100) && decide ((r.prev.size : Int) = 16) && decide ((r.body.size : Int) ≤ 416)
theorem fits_of {r : Rec} (h : fitB r = true) : fits r := by
  unfold fitB at h
  simp only [Bool.and_eq_true, decide_eq_true_eq] at h
  obtain ⟨⟨⟨⟨⟨⟨h1, h2⟩, h3⟩, h4⟩, h5⟩, h6⟩, h7⟩ := h
  have := nameB_size h3
  unfold fits; omega
set_option maxRecDepth 100000 in
set_option maxHeartbeats 1000000 in
theorem wright_any (r : Rec) (w : World) (hs : r.subject.size ≤ 1048576) :
    Calls Tryz.prog 93 #[.agg (recV r)] w (Res (fitB r) w) := by
  obtain ⟨q, s, g, p, b⟩ := r
  unfold recV fitB
  dsimp only at hs ⊢
  have NA := fun w => name_any s w (by omega)
  generalize nameB s.data.toList = nb at NA ⊢
  go_enter Tryz.func93, Tryz.ntmps93
  go_wp2_with fail
  all_goals (first | (go_ret; exact ⟨by simp_all <;> (intros; omega), ext_alloc _ (ext_refl w)⟩) | skip)
  have H1 := Lib.hid (heap_alloc_at w (.cells #[.int .i64 q, .string s, .int .i64 g, .string p, .string b] 108))
  have X1 := Lib.hid (ext_alloc (.cells #[.int .i64 q, .string s, .int .i64 g, .string p, .string b] 108) (ext_refl w))
  generalize w.alloc (.cells #[.int .i64 q, .string s, .int .i64 g, .string p, .string b] 108) = w1 at H1 X1 ⊢
  refine (NA _).mono ?_
  rintro _ w2 ⟨rfl, hx⟩
  have H2 := Lib.hid (((ext_iff.1 hx).block _ (lt_of_heap H1.out)).trans H1.out)
  have X2 := Lib.hid (ext_trans X1.out hx)
  clear hx H1 X1
  obtain ⟨c0, c1, c2, c3, c4⟩ := rec_cells (r := ⟨q, s, g, p, b⟩) H2.out
  dsimp only at c0 c1 c2 c3 c4
  cases nb with
  | false =>
    go_wp2_with fail
    go_ret
    exact ⟨by simp, X2.out⟩
  | true =>
    go_wp2_with fail
    all_goals (go_ret; exact ⟨by simp_all <;> (intros; omega), X2.out⟩)
end Go.Proofs.YtnkmckdefiblhaaGreatDoor
