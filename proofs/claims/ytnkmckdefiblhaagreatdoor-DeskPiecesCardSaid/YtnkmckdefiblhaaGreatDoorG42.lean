/- strings.SplitSeq at line feeds: its iterator's contract (the walk, inside the wide fence). · The desk: how long its answers are; what a session answers. Plain words. · A range over strings.SplitSeq at line feeds (inside the wide fence). -/
import Derived.RangeFuncNested
import Derived.RangeFuncBound
import Derived.RangeFuncCalls
import Derived.RangeFuncLeaves
import Derived.Shelf.Abstract
import Derived.Shelf.RegionOpen
import Derived.WalkKit
import Derived.OwnWalkIn
import Derived.TacticsInMore
import Derived.LoopNIn
import Derived.LoopIn
import Derived.Sort.QuietLawsIn
import Derived.Lib.IndexLaws
import Derived.Test.YtnkmckdefiblhaaGreatDoorProg
import Derived.Test.YtnkmckdefiblhaaGreatDoorShelfD
import Derived.Test.YtnkmckdefiblhaaGreatDoorG18
import Derived.Test.YtnkmckdefiblhaaGreatDoorG3
import Derived.Test.YtnkmckdefiblhaaGreatDoorG41
namespace Go.Proofs.YtnkmckdefiblhaaGreatDoor
open Go.RowKit Go.Shelf
attribute [local go_sem] Oper.semAt_some

/-! ### Lines -/
def lfI (u : ByteArray) : Int := Lib.indexByte u.data.toList 10
def linesK : Nat → ByteArray → List ByteArray
  | 0, u => [u]
  | f + 1, u => if lfI u < 0 then [u] else u.extract 0 (lfI u).toNat :: linesK f (u.extract ((lfI u).toNat + 1) u.size)
def linesB (u : ByteArray) : List ByteArray := linesK u.size u
theorem lfI_lt (u : ByteArray) (h : 0 ≤ lfI u) : (lfI u).toNat < u.size := by
  unfold lfI at h ⊢
  obtain ⟨h1, _⟩ := Lib.indexByte_some (l := u.data.toList) (c := 10) (o := (Lib.indexByte u.data.toList 10).toNat) (by omega)
  have := (List.getElem?_eq_some_iff.1 h1).1
  rw [Array.length_toList] at this; exact this
theorem linesK_stop {f : Nat} {u : ByteArray} (h : lfI u < 0) : linesK f u = [u] := by
  cases f with
  | zero => rfl
  | succ f => exact if_pos h
theorem linesK_next {f : Nat} {u : ByteArray} (h : ¬ lfI u < 0) (hf : u.size ≤ f) : ∃ g, f = g + 1 ∧ linesK f u = u.extract 0 (lfI u).toNat :: linesK g (u.extract ((lfI u).toNat + 1) u.size) ∧ (u.extract ((lfI u).toNat + 1) u.size).size ≤ g := by
  have hlt := lfI_lt u (by omega)
  cases f with
  | zero => omega
  | succ g => exact ⟨g, rfl, if_neg h, by rw [ByteArray.size_extract]; omega⟩
/-! ### The iterator -/
structure boxAt (A : World) (sb pb kb : Nat) (u : ByteArray) : Prop where
  s_ : A.heap[sb]? = some (.cells #[.string u] 9 (0, 0))
  p_ : A.heap[pb]? = some (.cells #[.string ⟨#[10]⟩] 9 (0, 0))
  k_ : A.heap[kb]? = some (.cells #[.int .i64 0] 3 (0, 0))
  ne : sb ≠ pb ∧ sb ≠ kb
def rdBox (w : World) (sb : Nat) : Nat := match w.cell? ⟨sb, 0, none⟩ with
  | some (.string s) => s.size
  | _ => 0
theorem box_one {w : World} {b : Nat} {v : Value} {t : TypeId} {f : Nat × Nat} (h : w.heap[b]? = some (.cells #[v] t f)) : w.cell? ⟨b, 0, none⟩ = some v := by rw [cell_in, h]; rfl
theorem rdBox_at {w : World} {sb pb kb : Nat} {u : ByteArray} (h : boxAt w sb pb kb u) : rdBox w sb = u.size := by
  unfold rdBox; rw [box_one h.s_]
theorem boxAt.put {w : World} {sb pb kb : Nat} {u : ByteArray} (h : boxAt w sb pb kb u) (x : ByteArray) : boxAt (w.setCell ⟨sb, 0, none⟩ (.string x)) sb pb kb x := by
  have hg := grown_setCell w sb 0 (.string x)
  exact ⟨heap_setCell h.s_ _, (hg.block _ (lt_of_heap h.p_) (fun e => h.ne.1 (by injection e with e; exact e.symm))).trans h.p_, (hg.block _ (lt_of_heap h.k_) (fun e => h.ne.2 (by injection e with e; exact e.symm))).trans h.k_, h.ne⟩
theorem index_any1 (u : ByteArray) (w : World) : Calls Tryz.prog 30 #[.string u, .string ⟨#[10]⟩] w fun e w' => e = .returned (.int .i64 (lfI u)) ∧ w' = w :=
  Tryz.strings_Index_one u 10 w
set_option maxRecDepth 100000 in
set_option maxHeartbeats 4000000 in
theorem split_in (l sb pb kb : Nat) (s : ByteArray) (hs : s.size ≤ 1048576) (J : List ByteArray → World → Prop) (W : World)
    (hJ : ∀ acc A B, J acc A → A.grownBy B (some sb) → J acc B)
    (hY : ∀ acc u x A, J acc A → boxAt A sb pb kb u → x.size ≤ s.size → acc.length ≤ s.size → YieldAt Fence.wide 1 Tryz.prog l #[.string x] A fun e B => e = .returned (.bool true) ∧ J (acc ++ [x]) B ∧ boxAt B sb pb kb u)
    (hb : boxAt W sb pb kb s) (h0 : J [] W) :
    CallsIn Fence.wide 2 Tryz.prog 28 #[.func (.yield l) #[] #[], .pointer (some ⟨pb, 0, none⟩), .pointer (some ⟨sb, 0, none⟩), .pointer (some ⟨kb, 0, none⟩)] W fun e B => (∃ v, e = .returned v) ∧ J (linesB s) B := by
  have JJ0 := Lib.hid h0
  have BX0 := Lib.hid hb
  have HJ := Lib.hid hJ
  have HY := Lib.hid hY
  have hpp := box_one hb.p_
  have hlp := lt_of_heap hb.p_
  clear h0 hb hJ hY
  refine callsIn_of_wp Tryz.func28 rfl trivial ?_ rfl
  simp only [Tryz.ntmps28, List.size_toArray, List.length_cons, List.length_nil, Nat.reduceAdd, Nat.reduceSub, Array.replicate_succ, Array.replicate_zero, List.push_toArray, List.append_toArray, List.nil_append, List.cons_append]
  gi_wp2
  clear hpp hlp
  gi_loopw [7] (fun _ wr => ∃ (acc : List ByteArray) (u : ByteArray) (f : Nat), Hid (linesB s = acc ++ linesK f u) ∧ Hid (u.size ≤ f) ∧ Hid (acc.length + u.size ≤ s.size) ∧ Hid (boxAt wr sb pb kb u) ∧ Hid (J acc wr)) (fun _ wr => rdBox wr sb)
  case atStart => exact ⟨[], s, s.size, Lib.hid rfl, Lib.hid (Nat.le_refl _), Lib.hid (by simp), BX0, JJ0⟩
  case round =>
    clear JJ0 BX0
    obtain ⟨acc, u, f, LN, FU, SZ, BX, JJ⟩ := hrel
    have c0 := box_one BX.out.s_
    have c1 := box_one BX.out.p_
    have c2 := box_one BX.out.k_
    have l0 := lt_of_heap BX.out.s_
    have l1 := lt_of_heap BX.out.p_
    have l2 := lt_of_heap BX.out.k_
    have IX := (callsIn_wide (n := 1)).2 (index_any1 u wr)
    by_cases hi : lfI u < 0
    · have hd : decide (lfI u < 0) = true := decide_eq_true hi
      have hY1 := HY.out acc u u wr JJ.out BX.out (by have := SZ.out; omega) (by have := SZ.out; omega)
      have HL := Lib.hid (show linesB s = acc ++ [u] by rw [LN.out, linesK_stop hi])
      obtain ⟨fn, tmps, assign, body, hy, hR⟩ := hY1
      generalize lfI u = i at *
      gi_wp2_with (refine ⟨trivial, ?_⟩; gi_at_call 30; refine IX.mono ?_; rintro _ w2 ⟨rfl, rfl⟩)
      refine hR.mono ?_
      rintro e W3 ⟨rfl, J4, b4⟩
      clear hy hR c0 c1 c2 l0 l1 l2 IX
      gi_wp2
      go_end0
      rw [HL.out]
      exact ⟨⟨_, rfl⟩, J4⟩
    · have hd : decide (lfI u < 0) = false := decide_eq_false hi
      have hY1 := HY.out acc u (u.extract 0 (lfI u).toNat) wr JJ.out BX.out (by have := SZ.out; rw [ByteArray.size_extract]; omega) (by have := SZ.out; omega)
      obtain ⟨g, hfg, HL, HS⟩ := linesK_next hi FU.out
      have HL2 := Lib.hid (show linesB s = (acc ++ [u.extract 0 (lfI u).toNat]) ++ linesK g (u.extract ((lfI u).toNat + 1) u.size) by rw [LN.out, HL, List.append_assoc]; rfl)
      have HS2 := Lib.hid HS
      have hlt := lfI_lt u (by omega)
      have hsz2 : u.size ≤ 1048576 := by have := SZ.out; omega
      have HR := Lib.hid (rdBox_at BX.out)
      clear HL HS hfg LN FU
      obtain ⟨j, hj⟩ : ∃ j : Nat, lfI u = (j : Int) := ⟨(lfI u).toNat, by omega⟩
      rw [hj] at hi hd hY1 HL2 HS2 hlt IX
      rw [show ((j : Int)).toNat = j from rfl] at hY1 HL2 HS2 hlt
      have hex : (u.extract (j + 1) u.size).size < u.size := by rw [ByteArray.size_extract]; omega
      have HX := Lib.hid hex
      have HX2 := Lib.hid (show (u.extract (j + 1) u.size).size + 1 ≤ u.size by omega)
      clear hj hex hi
      obtain ⟨fn, tmps, assign, body, hy, hR⟩ := hY1
      gi_wp2_with (refine ⟨trivial, ?_⟩; gi_at_call 30; refine IX.mono ?_; rintro _ w2 ⟨rfl, rfl⟩)
      refine hR.mono ?_
      rintro e W3 ⟨rfl, J4, b4⟩
      have d0 := box_one b4.s_
      have d1 := box_one b4.p_
      have m0 := lt_of_heap b4.s_
      have m1 := lt_of_heap b4.p_
      have ff := free_of_heap b4.s_
      have B5 := Lib.hid (b4.put (u.extract (j + 1) u.size))
      have J5 := Lib.hid (HJ.out _ _ _ J4 (grown_setCell W3 sb 0 (.string (u.extract (j + 1) u.size))))
      clear hy hR c0 c1 c2 l0 l1 l2 IX J4 b4 JJ BX
      gi_wp2
      go_roundw
      case rel => exact ⟨_, _, g, HL2, HS2, Lib.hid (by have := SZ.out; have := HX2.out; rw [List.length_append, List.length_singleton]; omega), B5, J5⟩
      case measure => rw [rdBox_at B5.out, HR.out]; exact HX.out
end Go.Proofs.YtnkmckdefiblhaaGreatDoor
namespace Go.Proofs.YtnkmckdefiblhaaGreatDoor
open Go.RowKit Go.Shelf

theorem ansI_size (b : ByteArray) (n : Int) (hb : b.size ≤ 10) (h0 : -9223372036854775808 ≤ n) (h1 : n ≤ 9223372036854775807) : (b ++ itoaT n).size ≤ 200000 := by
  have := itoa_size n h0 h1
  rw [app_size]; omega
theorem nodup_len {α : Type} [DecidableEq α] : ∀ (a b : List α), a.Nodup → a ⊆ b → a.length ≤ b.length
  | [], _, _, _ => Nat.zero_le _
  | x :: a, b, hn, hs => by
    obtain ⟨h1, h2⟩ := List.nodup_cons.1 hn
    have hx : x ∈ b := hs (List.mem_cons_self ..)
    have h3 := nodup_len a (b.erase x) h2 (fun y hy => (List.mem_erase_of_ne (fun e : y = x => h1 (by rw [← e]; exact hy))).2 (hs (List.mem_cons_of_mem _ hy)))
    have h4 := List.length_erase_of_mem hx
    have h5 := List.length_pos_of_mem hx
    rw [List.length_cons]
    omega
theorem subsL_len {M : DkM} (h : DkInv M) : (subsL M.S.has).length ≤ 100 ∧ ∀ x ∈ subsL M.S.has, x.length ≤ 10 := by
  classical
  unfold subsL
  split
  · rename_i hx
    obtain ⟨h1, h2⟩ := hx.choose_spec
    generalize hx.choose = ss at h1 h2 ⊢
    have hp : (sortT ss).Perm ss := List.mergeSort_perm ss _
    have hL := h.len
    refine ⟨?_, fun x hx => ?_⟩
    · rw [hp.length_eq]
      have hsub : ss ⊆ M.S.L.map fun r => txt r.subject := fun x hx => by
        have := (h2 (mkT x)).1 (by rw [txt_mkT]; exact hx)
        obtain ⟨r, h3, h4⟩ := h.told _ this
        exact List.mem_map.2 ⟨r, h3, by rw [h4, txt_mkT]⟩
      have := nodup_len ss _ h1 hsub
      rw [List.length_map] at this
      omega
    · have := (h2 (mkT x)).1 (by rw [txt_mkT]; exact hp.mem_iff.1 hx)
      have := (nameB_size (h.nm _ this)).2
      have e : (mkT x).size = x.length := by show (List.toArray x).size = _; rw [List.size_toArray]
      omega
  · exact ⟨Nat.zero_le _, fun x hx => by cases hx⟩
def ansZ : Ans → Prop
  | .ok s => s.size ≤ 200000
  | .er _ => True
theorem cmd_size {M : DkM} (h : DkInv M) (k : ByteArray) (ws : List ByteArray) : ansZ (cmdA k M ws).1 := by
  unfold cmdA
  cases hf : findS k cmdL with
  | none => trivial
  | some f =>
    obtain ⟨p, hp, _, rfl⟩ := findS_mem hf
    dsimp only
    have hL := h.len
    have hget := h.get (wd0 ws)
    have hgs := hget.sq
    have hgl := hget.lost
    have hdo : ∀ name : ByteArray, name.size ≤ 10 → ansZ (doA name M ws).1 := fun name hn => by
      unfold doA
      split
      · rename_i hpa
        unfold doE
        split
        · have hb := h.bound (parse_yes_ev hpa).2
          unfold boundR at hb
          generalize toldR M.sec M.S.many M.S.has M.S.L (parseE (name ++ bl1 ++ jnT ws)) = r at hb
          have i1 := itoa_size r.seq (by omega) (by omega)
          have i2 := itoa_size r.gen (by omega) (by omega)
          have i3 := itoa_size (r.body.size : Nat) (by omega) (by omega)
          show (doT name r).size ≤ 200000
          unfold doT
          have hb1 : bl1.size = 1 := rfl
          simp only [app_size]
          omega
        · trivial
      · trivial
    unfold cmdL at hp
    simp only [List.mem_cons, List.not_mem_nil, or_false] at hp
    rcases hp with rfl | rfl | rfl | rfl | rfl | rfl | rfl | rfl | rfl | rfl | rfl | rfl | rfl | rfl | rfl | rfl <;> dsimp only
    · unfold wireD
      split
      · split
        · trivial
        · split
          · rename_i n _ hc
            have hk : (n - 1).toNat < M.S.L.length := by omega
            have hx := List.getElem?_eq_getElem hk
            have hw := (writeL_long (h.fit hx).1).2
            show (_ ++ hexT (writeL mkB (M.S.L.getD (n - 1).toNat zeroR))).size ≤ 200000
            rw [List.getD_eq_getElem?_getD, hx, Option.getD_some, app_size, hexT_size]
            have e : (⟨#[119, 105, 114, 101, 32]⟩ : ByteArray).size = 5 := rfl
            omega
          · trivial
      · trivial
    · show (_ ++ hexT (sumB (jnT ws).data.toList)).size ≤ 200000
      rw [app_size, hexT_size, sumB_length]
      have e : (⟨#[115, 117, 109, 32]⟩ : ByteArray).size = 4 := rfl
      omega
    · unfold subjectsD
      split
      · obtain ⟨h1, h2⟩ := subsL_len h
        show (jnT _).size ≤ 200000
        show (List.toArray _).size ≤ _
        rw [List.size_toArray]
        have hj := join_len 10 ((⟨#[115, 117, 98, 106, 101, 99, 116, 115]⟩ :: (subsL M.S.has).map mkT).map (·.data.toList)) (fun x hx => by
          obtain ⟨y, hy, rfl⟩ := List.mem_map.1 hx
          rcases List.mem_cons.1 hy with rfl | hy
          · decide
          · obtain ⟨z, hz, rfl⟩ := List.mem_map.1 hy
            exact h2 z hz)
        rw [List.length_map, List.length_cons, List.length_map] at hj
        omega
      · trivial
    · unfold saveD; split
      · exact ansI_size _ _ (by decide) (by omega) (by omega)
      · trivial
    · unfold rowsD; split
      · obtain ⟨h1, h2⟩ := h.rrows (wd0 ws)
        have := toldT_size rowsN _ h1
        have e : rowsN.size = 4 := rfl
        show (toldT rowsN (sortC (getR M (wd0 ws)).T)).size ≤ 200000
        omega
      · trivial
    · unfold readD
      split
      · split
        · trivial
        · rename_i n _
          have := (read_facts h (n := n) hget M.S.L.length (Nat.le_refl _)).1.sq
          exact ansI_size _ _ (by decide) (by omega) (by omega)
      · trivial
    · exact hdo _ (by decide)
    · unfold freshA; split
      · show (ByteArray.size _) ≤ _; decide
      · trivial
    · unfold lostD; split
      · exact ansI_size _ _ (by decide) (by omega) (by omega)
      · trivial
    · unfold loadD
      split
      · split
        · rename_i hm
          have hk : SvOk M.S.L M.k := h.sv.resolve_left (fun e => by rw [e] at hm; cases hm)
          have := hk.sq
          exact ansI_size _ _ (by decide) (by omega) (by omega)
        · trivial
      · trivial
    · unfold helpD; split
      · show helpT.size ≤ _; decide
      · trivial
    · exact hdo _ (by decide)
    · unfold feedD; split
      · have := feed_size ⟨#[102, 101, 101, 100]⟩ M.S.L
        have e : (⟨#[102, 101, 101, 100]⟩ : ByteArray).size = 4 := rfl
        show (feedT M.S.L).size ≤ 200000
        unfold feedT
        omega
      · trivial
    · exact hdo _ (by decide)
    · unfold cellsD; split
      · obtain ⟨h1, h2⟩ := h.rows
        have := toldT_size cellsN _ h1
        have e : cellsN.size = 5 := rfl
        show (toldT cellsN (sortC M.S.T)).size ≤ 200000
        omega
      · trivial
    · unfold blockD
      split
      · split
        · trivial
        · split
          · show (_ ++ hexT _).size ≤ 200000
            rw [app_size, hexT_size]
            unfold block
            rw [outB_length]
            have e : (⟨#[98, 108, 111, 99, 107, 32]⟩ : ByteArray).size = 6 := rfl
            omega
          · trivial
      · trivial
theorem line_size {M : DkM} (h : DkInv M) (s : ByteArray) : (lineA M s).1.size ≤ 200000 := by
  unfold lineA
  split
  · show (⟨#[111, 107]⟩ : ByteArray).size ≤ _
    decide
  · rename_i k ws _
    have h1 := cmd_size h k ws
    have h2 := cmd_ansOk k M ws
    dsimp only
    cases hx : (cmdA k M ws).1 with
    | ok s => rw [hx] at h1; exact h1
    | er n =>
      rw [hx] at h2
      have h2 : 0 ≤ n ∧ n ≤ 100 := h2
      have := itoa_size n (by omega) (by omega)
      show (errS n).size ≤ _
      unfold errS
      rw [app_size]
      have e : (⟨#[101, 114, 114, 111, 114, 32]⟩ : ByteArray).size = 6 := rfl
      omega
/-! ### A session -/
noncomputable def sessF (p : ByteArray × DkM) (s : ByteArray) : ByteArray × DkM := (p.1 ++ ((lineA p.2 s).1 ++ ⟨#[10]⟩), (lineA p.2 s).2)
noncomputable def sessP (acc : List ByteArray) : ByteArray × DkM := acc.foldl sessF (⟨#[]⟩, newM ⟨#[]⟩)
theorem sessP_snoc (acc : List ByteArray) (x : ByteArray) : sessP (acc ++ [x]) = sessF (sessP acc) x := by unfold sessP; rw [List.foldl_append]; rfl
theorem sess_facts (acc : List ByteArray) : DkInv (sessP acc).2 ∧ (sessP acc).1.size ≤ 200001 * acc.length := by
  unfold sessP
  suffices h : ∀ (acc : List ByteArray) (p : ByteArray × DkM), DkInv p.2 → DkInv (acc.foldl sessF p).2 ∧ (acc.foldl sessF p).1.size ≤ p.1.size + 200001 * acc.length by
    have := h acc (⟨#[]⟩, newM ⟨#[]⟩) (DkInv.new _)
    have e : (⟨#[]⟩ : ByteArray).size = 0 := rfl
    exact ⟨this.1, by have := this.2; dsimp only at this; omega⟩
  intro acc
  induction acc with
  | nil => intro p h; exact ⟨h, by simp⟩
  | cons x acc ih =>
    intro p h
    obtain ⟨h1, h2⟩ := ih (sessF p x) (h.line x)
    refine ⟨h1, ?_⟩
    have h3 := line_size h x
    have h4 : (sessF p x).1.size = p.1.size + ((lineA p.2 x).1.size + 1) := by
      show (p.1 ++ ((lineA p.2 x).1 ++ ⟨#[10]⟩)).size = _
      rw [app_size, app_size]; rfl
    rw [List.foldl_cons, List.length_cons]
    omega
def trimT (t : ByteArray) : ByteArray := ⟨(Lib.trimSuffix t.data.toList [10]).toArray⟩
noncomputable def sessB (t : ByteArray) : ByteArray := (sessP (linesB (trimT t))).1
end Go.Proofs.YtnkmckdefiblhaaGreatDoor
namespace Go.Proofs.YtnkmckdefiblhaaGreatDoor
open Go.RowKit Go.Shelf
attribute [local go_sem] Oper.semAt_some

/-- How a round's body is left: off its end; the loop's record and the block for the rounds' deferred calls as they were. -/
def roundEnd (I : World → Prop) (l d : Nat) (A1 : World) : Exit → Act → World → Prop
  | .normal, _, A2 => A2.heap[l]? = A1.heap[l]? ∧ A2.heap[d]? = A1.heap[d]? ∧ I A2
  | .ret, _, _ => False
  | .exit _, _, _ => False
  | .goto _, _, _ => False
  | .panic _, _, _ => False
  | .outgrown, _, _ => False
/-- 'for x := range strings.SplitSeq(..) { .. }', whose body never leaves early. -/
theorem wpIn_split {g : Operand} {ps : Array Tmp} {assign body : Code} {Q : Exit → Act → World → Prop} {a : Act} {w : World} (sb pb kb : Nat) (s : ByteArray) (hs : s.size ≤ 1048576)
    (hg : a.eval g = .func (.func 28) #[] #[.pointer (some ⟨pb, 0, none⟩), .pointer (some ⟨sb, 0, none⟩), .pointer (some ⟨kb, 0, none⟩)]) (hps : ps.size = 1) (hbx : boxAt w sb pb kb s)
    (I : List ByteArray → World → Prop) (h0 : I [] w)
    (hI : ∀ acc A B row, I acc A → A.grownBy B row → (∀ r, row = some r → r = sb ∨ r = w.heap.size + 1) → I acc B)
    (hround : ∀ acc u x A, I acc A → boxAt A sb pb kb u → x.size ≤ s.size → acc.length ≤ s.size → w.heap.size + 2 ≤ A.heap.size →
      assign.wpIn (Fence.wide.inRound (w.heap.size + 1)) 1 Tryz.prog (Exit.then (fun a1 A1 => A1 = A ∧ ∀ o, body.wpIn (Fence.wide.inRound (w.heap.size + 1)) 1 Tryz.prog (roundEnd (fun A2 => I (acc ++ [x]) A2 ∧ boxAt A2 sb pb kb u) (w.heap.size + 1) w.heap.size (A.putObj (w.heap.size + 1) o)) a1 (A.putObj (w.heap.size + 1) o)) (fun _ _ _ => False))
        { tmps := (ps.zip #[.string x]).foldl (fun t (p, v) => t.setIfInBounds p v) a.tmps, defers := [] } A)
    (hdone : ∀ A, I (linesB s) A → A.heap[w.heap.size]? = some (.deferred (some [])) → Q .normal { a with defers := { target := .collected w.heap.size, args := #[] } :: a.defers } A) :
    (Code.rangeFunc g ps assign body).wpIn Fence.wide 4 Tryz.prog Q a w := by
  have hl0 := lt_of_heap hbx.s_
  have hl1 := lt_of_heap hbx.p_
  have hl2 := lt_of_heap hbx.k_
  refine wpIn_rangeFunc ?_
  intro fn hfn
  obtain ⟨rec, hrec⟩ : ∃ rec : LoopState → Option Code → Loop, rec = fun st pe => { state := st, pending := pe, fn, tmps := a.tmps, params := ps, assign, body, defers := w.heap.size } := ⟨_, rfl⟩
  obtain ⟨W1, hW1⟩ : ∃ W1, (w.alloc (.deferred (some []))).alloc (.loop (rec .ready none)) = W1 := ⟨_, rfl⟩
  have hL1 : W1.heap[w.heap.size + 1]? = some (.loop (rec .ready none)) := by
    rw [← hW1]; have := World.alloc_heap_new (w.alloc (.deferred (some []))) (.loop (rec .ready none)); rwa [World.size_alloc] at this
  have hK1 : W1.heap[w.heap.size]? = some (.deferred (some [])) := by
    rw [← hW1]; exact (Below.heap_alloc _ _ _ (by simp)).trans (World.alloc_heap_new w _)
  have hG1 : w.grownBy W1 none := by rw [← hW1]; exact (World.grownBy_alloc w _ none).trans (World.grownBy_alloc _ _ none)
  have hI1 : I [] W1 := hI _ _ _ none h0 hG1 (fun _ h => by cases h)
  have hbx1 : boxAt W1 sb pb kb s := ⟨(hG1.block _ hl0 (by simp)).trans hbx.s_, (hG1.block _ hl1 (by simp)).trans hbx.p_, (hG1.block _ hl2 (by simp)).trans hbx.k_, hbx.ne⟩
  have hs1 : w.heap.size + 2 ≤ W1.heap.size := by rw [← hW1]; simp
  refine ⟨w.heap.size + 1, [{ target := .collected w.heap.size, args := #[] }], W1, { target := .fn (.func 28) #[.pointer (some ⟨pb, 0, none⟩), .pointer (some ⟨sb, 0, none⟩), .pointer (some ⟨kb, 0, none⟩)], args := #[.func (.yield (w.heap.size + 1)) #[] #[]] }, W1, 28,
    #[.func (.yield (w.heap.size + 1)) #[] #[], .pointer (some ⟨pb, 0, none⟩), .pointer (some ⟨sb, 0, none⟩), .pointer (some ⟨kb, 0, none⟩)], W1, ?_, ?_, ?_, ?_, fun h => (by cases h), ?_⟩
  · rw [← hW1, hrec]; exact run_enterLoop_outer _ _ _ _ _
  · simp only [resolve, hg]
    simp [go_sem]
  · intro f' _; trivial
  · simp [invoke, go_sem]
  · refine (CallsIn.more (split_in (w.heap.size + 1) sb pb kb s hs (fun acc A => (I acc A ∧ w.heap.size + 2 ≤ A.heap.size) ∧ A.heap[w.heap.size + 1]? = some (.loop (rec .ready none)) ∧ A.heap[w.heap.size]? = some (.deferred (some []))) W1 ?_ ?_ hbx1 ⟨⟨hI1, hs1⟩, hL1, hK1⟩) (by decide)).mono ?_
    · rintro acc A B ⟨⟨hi, hz⟩, hl, hk⟩ hgr
      refine ⟨⟨hI _ _ _ _ hi hgr (fun r h => by injection h with h; exact .inl h.symm), Nat.le_trans hz hgr.size⟩, (hgr.block _ (lt_of_heap hl) (by intro h; injection h with h; omega)).trans hl, (hgr.block _ (lt_of_heap hk) (by intro h; injection h with h; omega)).trans hk⟩
    · rintro acc u x A ⟨⟨hi, hz⟩, hl, hk⟩ hr hx1 hx2
      have hy := run_yield (P := Tryz.prog) (args := #[.string x]) hl (by rw [hrec]; exact hps.symm)
      rw [hrec] at hy
      refine ⟨fn, _, assign, body, hy, roundIn_of_wpIn hfn ?_⟩
      refine wpIn_mono (hround acc u x A hi hr hx1 hx2 hz) ?_
      rintro e a1 A1 hp
      cases e with
      | normal =>
        obtain ⟨rfl, hb⟩ := hp
        refine ⟨_, run_beginRound hl (by rw [hrec]), wpIn_mono (hb _) ?_⟩
        rintro e2 a2 A2 hp2
        cases e2 with
        | normal =>
          obtain ⟨h1, h2, hi2, hr2⟩ := hp2
          rw [World.putObj_heap_same (lt_of_heap hl)] at h1
          rw [World.putObj_heap_other (by omega), hk] at h2
          refine ⟨_, _, run_endRound none h1, rfl, ?_, ?_⟩
          · have hgp : A2.grownBy (A2.putObj (w.heap.size + 1) (.loop (rec .ready none))) (some (w.heap.size + 1)) := grownBy_putObj' A2 _ _
            rw [hrec] at hgp ⊢
            refine ⟨⟨hI _ _ _ _ hi2 hgp (fun r h => by injection h with h; exact .inr h.symm), Nat.le_trans ?_ hgp.size⟩, World.putObj_heap_same (lt_of_heap h1), (World.putObj_heap_other (by omega)).trans h2⟩
            have := lt_of_heap h1
            omega
          · exact ⟨(World.putObj_heap_other (by omega)).trans hr2.s_, (World.putObj_heap_other (by omega)).trans hr2.p_, (World.putObj_heap_other (by omega)).trans hr2.k_, hr2.ne⟩
        | ret => exact hp2.elim
        | exit id => exact hp2.elim
        | goto t => exact hp2.elim
        | panic ch => exact hp2.elim
        | outgrown => exact hp2.elim
      | ret => exact hp.elim
      | exit id => exact hp.elim
      | goto t => exact hp.elim
      | panic ch => exact hp.elim
      | outgrown => exact hp.elim
    · rintro e W2 ⟨⟨v, rfl⟩, ⟨hi, hz⟩, hl, hk⟩
      have he := run_endLoop (P := Tryz.prog) hl (by rw [hrec]; simp)
      rw [hrec] at he
      refine ⟨none, _, he, ?_⟩
      refine hdone _ (hI _ _ _ _ hi (grownBy_putObj' W2 _ _) (fun r h => by injection h with h; exact .inr h.symm)) ((World.putObj_heap_other (by omega)).trans hk)
end Go.Proofs.YtnkmckdefiblhaaGreatDoor
