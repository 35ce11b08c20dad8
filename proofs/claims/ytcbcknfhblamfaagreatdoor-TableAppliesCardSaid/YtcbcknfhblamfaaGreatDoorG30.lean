/- oubliettelaw.TableApplies (the walk). -/
import Derived.Test.YtcbcknfhblamfaaGreatDoorProg
import Derived.Test.YtcbcknfhblamfaaGreatDoorG27
import Derived.Test.YtcbcknfhblamfaaGreatDoorG28
import Derived.Test.YtcbcknfhblamfaaGreatDoorG29
import Derived.Test.YtcbcknfhblamfaaGreatDoorG19
import Derived.Test.YtcbcknfhblamfaaGreatDoorInv
import Derived.Deep.DeepCutAuto
namespace Go.Proofs.YtcbcknfhblamfaaGreatDoor
open Go.RowKit Go.Shelf

/-- What Apply says, as the document's number. -/
def codA (e : Ev) : Int := if rightE okV e = true then 0 else 1
theorem vsays (e : Ev) : (if rightE okV e = true then Value.nilIface else errV 1) = errOf (codA e) := by unfold codA errOf; cases rightE okV e <;> rfl
theorem ex_sorted {l : List Cell} (h : Once l) : ∃ l', l'.Perm l ∧ Asc l' := by
  have := Go.Sort.insertionSort_holds swo_ltC l.toArray 0 l.toArray.size (Nat.zero_le _) (Nat.le_refl _)
  exact ⟨_, sorted_asc (d := l.toArray) h this.1 (by rw [← ltC_eq]; exact this.2)⟩
theorem tabAt.len {w : World} {tb : Nat} {mb : Option Nat} {n : Nat} {T : List Cell} (h : tabAt w tb mb n T) : T.length ≤ n := by
  cases mb with
  | none => rw [h.nil rfl]; exact Nat.zero_le _
  | some b => exact (h.map b rfl).len_le
/-- What both hold behind an event: the same rows in order. -/
theorem ex_next (e : Ev) {T D : List Cell} (hp : D.Perm T) (ha : Asc D) (hO : Once T) : ∃ Dn : List Cell, Dn.Perm (applyT okV e T) ∧ Asc Dn ∧ (rightE okV e = true → Dn.Perm (refF e D)) ∧ (rightE okV e = false → Dn = D) := by
  cases hr : rightE okV e with
  | true =>
    obtain ⟨l, h1, h2⟩ := ex_sorted (refF_once (e := e) ha.once)
    exact ⟨l, h1.trans (refF_perm okV hp hO hr), h2, fun _ => h1, fun h => by cases h⟩
  | false =>
    exact ⟨D, by unfold applyT; rw [if_neg (by rw [hr]; simp)]; exact hp, ha, fun h => (by cases h), fun _ => rfl⟩
theorem own_cells {w : World} {base k c : Nat} {q : Option Addr} {l : List Cell} (h : ownsCl w base (.slice q k c) l) : cellsIn w q l := by
  by_cases hF : l = []
  · exact .inl hF
  · obtain ⟨g, cap, cur, hv, hg, hh, _, _, _, hx'⟩ := ownsCl_form h hF
    injection hv with e1 e2 e3
    subst e1
    refine .inr ⟨g, rfl, lt_of_heap hh, fun j hj i v hi => ?_⟩
    have h4 := cell_of (holdsC hh hx') (i := j) (by simpa using hj)
    rw [Nat.zero_add]
    have ed : l.toArray[j]! = l[j]! := by simp
    rw [ed] at h4
    exact four_of h4 i v hi
/-- The document's Apply, of whatever event. -/
theorem tapI.rboth {wz w : World} {tb wt n c : Nat} {T D Dn : List Cell} {mb : Option Nat} {q : Option Addr} (e : Ev) (h : tapI wz tb wt n T D mb q c w) (hn : D.length ≤ 40) (hz : e.subject.size ≤ 60 ∧ e.table.size ≤ 60 ∧ e.row.size ≤ 60 ∧ e.value.size ≤ 60) (hO : Once D)
    (h1 : rightE okV e = true → Dn.Perm (refF e D)) (hA : Asc Dn) (h2 : rightE okV e = false → Dn = D) :
    Calls Tryz.prog 8 #[.pointer (some ⟨wt, 0, none⟩), .agg (evV e)] w fun r w' => r = .returned (.int .i64 (codA e)) ∧ ∃ q' c', tapI wz tb wt n T Dn mb q' c' w' := by
  unfold codA
  cases hr : rightE okV e with
  | true =>
    refine (h.rapply e hn (by omega) (by rw [← rightE_is]; exact hr) hO).mono ?_
    rintro _ w' ⟨rfl, q', c', D', hp, ha, ht⟩
    obtain rfl : D' = Dn := asc_eq ha hA (hp.trans (h1 hr).symm)
    exact ⟨rfl, q', c', ht⟩
  | false =>
    refine (rapply_no e wt w (by omega) (by rw [← rightE_is]; exact hr)).mono ?_
    rintro _ w' ⟨rfl, hx⟩
    obtain rfl := h2 hr
    exact ⟨rfl, q, c, h.ext hx⟩
theorem applyT_len (ok : List UInt8 → Bool) (e : Ev) (T : List Cell) : (applyT ok e T).length ≤ T.length + 1 := by
  have hf : ∀ p : Cell → Bool, (T.filter p).length ≤ T.length + 1 := fun p => Nat.le_trans (List.length_filter_le _ _) (Nat.le_succ _)
  unfold applyT
  split
  · unfold stepT
    split
    · exact Nat.succ_le_succ (List.length_filter_le _ _)
    · split
      · split
        · exact hf _
        · exact Nat.le_succ _
      · exact hf _
  · exact Nat.le_succ _
/-- What both Gets say. -/
theorem get_says (k : List UInt8 × List UInt8) {T D : List Cell} (hp : D.Perm T) (hO : Once T) : ∃ (y : Cell) (c : Int), ansN (D.find? fun x => decide (ck x = k)) = .tuple #[.agg (cellA y), .int .i64 c] ∧ answG k T = .tuple #[.agg (cellA y), errOf c] := by
  rw [refGet_same hp hO]
  unfold ansN answG
  cases findT k T with
  | none => exact ⟨zeroC, 7, rfl, rfl⟩
  | some x => exact ⟨x, 0, rfl, rfl⟩
/-- The program's rows: the document's. -/
theorem cells_both {wz w : World} {tb wt n c k : Nat} {T D : List Cell} {mb : Option Nat} {q : Option Addr} (h : tapI wz tb wt (n + 1) T D mb q c w) (hn : n + 1 ≤ 1048576) (hp : D.Perm T) (ha : Asc D) (hk : k = D.length) :
    Calls Tryz.prog 10 #[.pointer (some ⟨tb, 0, none⟩)] w fun r w' => (∃ q c, r = .returned (.slice q k c) ∧ cellsIn w' q D) ∧ ∃ x, w' = Go.Proofs.YtcbcknfhblamfaaGreatDoor.ext w x := by
  subst hk
  have hI : tabIn 0 w w tb (n + 1) T := ⟨mb, h.tab, Nat.zero_le _, fun _ _ => Nat.zero_le _, Below.refl _ _, Nat.zero_le _⟩
  refine (cells_in hI hn).mono ?_
  rintro _ w' ⟨v, l, rfl, h1, h2, h3, _, h5⟩
  obtain rfl : l = D := asc_eq h2 ha (h1.trans hp.symm)
  obtain ⟨q5, c5, rfl⟩ := rows_shape h3
  exact ⟨⟨q5, c5, rfl, own_cells h3⟩, ext_of h5⟩
/-- What stands in the region that applies and compares. -/
structure tapC (wz : World) (tb wt n : Nat) (T T' D Dn : List Cell) (l4 l10 l11 l12 l13 l14 l18 : Bool) (v54 v58 : Value) (w : World) : Prop where
  t : ∃ mb q c, tapI wz tb wt (if l4 = true then n + 1 else n) (if l4 = true then T' else T) (if l10 = true then Dn else D) mb q c w
  k11 : l11 = true → l4 = true ∧ l10 = true
  k12 : l12 = true → l11 = true
  k13 : l13 = true → l12 = true
  k14 : l14 = true → l13 = true
  k18 : l18 = true → l13 = true
  r14 : l14 = true → ∃ q c, v54 = .slice q Dn.length c ∧ cellsIn w q Dn
  r18 : l18 = true → ∃ q c, v58 = .slice q Dn.length c ∧ cellsIn w q Dn
section
variable {wz w w' : World} {tb wt n : Nat} {T T' D Dn : List Cell} {l4 l10 l11 l12 l13 l14 l18 : Bool} {v54 v58 : Value}
theorem tapC.all (h : tapC wz tb wt n T T' D Dn l4 l10 l11 l12 l13 l14 l18 v54 v58 w) (h13 : l13 = true) : l4 = true ∧ l10 = true := h.k11 (h.k12 (h.k13 h13))
theorem tapC.ext (h : tapC wz tb wt n T T' D Dn l4 l10 l11 l12 l13 l14 l18 v54 v58 w) (hx : ∃ x, w' = Go.Proofs.YtcbcknfhblamfaaGreatDoor.ext w x) : tapC wz tb wt n T T' D Dn l4 l10 l11 l12 l13 l14 l18 v54 v58 w' := by
  obtain ⟨mb, q, c, ht⟩ := h.t
  have hb := ext_iff.1 hx
  exact ⟨⟨mb, q, c, ht.ext hx⟩, h.k11, h.k12, h.k13, h.k14, h.k18, fun h1 => (h.r14 h1).imp fun q h => h.imp fun c h => ⟨h.1, rows_at h.2 hb⟩, fun h1 => (h.r18 h1).imp fun q h => h.imp fun c h => ⟨h.1, rows_at h.2 hb⟩⟩
theorem tapC.no14 (h : tapC wz tb wt n T T' D Dn l4 l10 l11 l12 l13 l14 l18 v54 v58 w) (h4 : l4 = false ∨ l10 = false) : l11 ≠ true ∧ l14 ≠ true ∧ l18 ≠ true := by
  have hn : l11 ≠ true := fun e => by have := h.k11 e; rcases h4 with h4 | h4 <;> simp [h4] at this
  exact ⟨hn, fun e => hn (h.k12 (h.k13 (h.k14 e))), fun e => hn (h.k12 (h.k13 (h.k18 e)))⟩
theorem tapC.s4 {mb : Option Nat} {q : Option Addr} {c : Nat} (h : tapC wz tb wt n T T' D Dn l4 l10 l11 l12 l13 l14 l18 v54 v58 w) (h4 : l4 = false) (ht : tapI wz tb wt (n + 1) T' (if l10 = true then Dn else D) mb q c w') : tapC wz tb wt n T T' D Dn true l10 l11 l12 l13 l14 l18 v54 v58 w' := by
  obtain ⟨n1, n2, n3⟩ := h.no14 (.inl h4)
  exact ⟨⟨mb, q, c, ht⟩, fun e => absurd e n1, h.k12, h.k13, h.k14, h.k18, fun e => absurd e n2, fun e => absurd e n3⟩
theorem tapC.s10 {mb : Option Nat} {q : Option Addr} {c : Nat} (h : tapC wz tb wt n T T' D Dn l4 l10 l11 l12 l13 l14 l18 v54 v58 w) (h10 : l10 = false) (ht : tapI wz tb wt (if l4 = true then n + 1 else n) (if l4 = true then T' else T) Dn mb q c w') : tapC wz tb wt n T T' D Dn l4 true l11 l12 l13 l14 l18 v54 v58 w' := by
  obtain ⟨n1, n2, n3⟩ := h.no14 (.inr h10)
  exact ⟨⟨mb, q, c, ht⟩, fun e => absurd e n1, h.k12, h.k13, h.k14, h.k18, fun e => absurd e n2, fun e => absurd e n3⟩
theorem tapC.s11 (h : tapC wz tb wt n T T' D Dn l4 l10 l11 l12 l13 l14 l18 v54 v58 w) (h4 : l4 = true) (h10 : l10 = true) : tapC wz tb wt n T T' D Dn l4 l10 true l12 l13 l14 l18 v54 v58 w :=
  ⟨h.t, fun _ => ⟨h4, h10⟩, fun _ => rfl, h.k13, h.k14, h.k18, h.r14, h.r18⟩
theorem tapC.s12 (h : tapC wz tb wt n T T' D Dn l4 l10 l11 l12 l13 l14 l18 v54 v58 w) (h11 : l11 = true) : tapC wz tb wt n T T' D Dn l4 l10 l11 true l13 l14 l18 v54 v58 w :=
  ⟨h.t, h.k11, fun _ => h11, fun _ => rfl, h.k14, h.k18, h.r14, h.r18⟩
theorem tapC.s13 (h : tapC wz tb wt n T T' D Dn l4 l10 l11 l12 l13 l14 l18 v54 v58 w) (h12 : l12 = true) : tapC wz tb wt n T T' D Dn l4 l10 l11 l12 true l14 l18 v54 v58 w :=
  ⟨h.t, h.k11, h.k12, fun _ => h12, fun _ => rfl, fun _ => rfl, h.r14, h.r18⟩
theorem tapC.s14 {q : Option Addr} {c : Nat} (h : tapC wz tb wt n T T' D Dn l4 l10 l11 l12 l13 l14 l18 v54 v58 w) (h13 : l13 = true) (hc : cellsIn w q Dn) : tapC wz tb wt n T T' D Dn l4 l10 l11 l12 l13 true l18 (.slice q Dn.length c) v58 w :=
  ⟨h.t, h.k11, h.k12, h.k13, fun _ => h13, h.k18, fun _ => ⟨q, c, rfl, hc⟩, h.r18⟩
theorem tapC.s18 {q : Option Addr} {c : Nat} (h : tapC wz tb wt n T T' D Dn l4 l10 l11 l12 l13 l14 l18 v54 v58 w) (h13 : l13 = true) (hc : cellsIn w q Dn) : tapC wz tb wt n T T' D Dn l4 l10 l11 l12 l13 l14 true v54 (.slice q Dn.length c) w :=
  ⟨h.t, h.k11, h.k12, h.k13, h.k14, fun _ => h13, h.r14, fun _ => ⟨q, c, rfl, hc⟩⟩
end
def frTa (ll : Nat) (cp : Nat) (nm : ByteArray) (row : ByteArray) (ga : Nat) (oa : Nat) (k : Nat) (wt : Nat) (tb : Nat) (ek : Int) (eS : ByteArray) (eT : ByteArray) (eR : ByteArray) (eV : ByteArray) (u6 : Value) (u11 : Value) (u12 : Value) (u13 : Value) (u14 : Value) (u15 : Value) (u33 : Value) (u34 : Value) (u62 : Value) (u63 : Value) (u64 : Value) (u65 : Value) (u66 : Value) (u67 : Value) (u68 : Value) (u69 : Value) (u70 : Value) (u71 : Value) (u72 : Value) (u73 : Value) (u74 : Value) (u75 : Value) (u76 : Value) (u77 : Value) (u78 : Value) (u79 : Value) (u80 : Value) (u81 : Value) (u82 : Value) (u83 : Value) (u84 : Value) (u85 : Value) (u86 : Value) (u87 : Value) (u88 : Value) (u89 : Value) (u90 : Value) (u91 : Value) (u92 : Value) (u93 : Value) (u94 : Value) (u95 : Value) (u96 : Value) (g : Nat → Value) : Act := { tmps := #[.slice (some ⟨ga, oa, none⟩) ll cp, .string nm, .string row, undef, undef, undef, u6, .pointer (some ⟨wt, 0, none⟩), .pointer (some ⟨tb, 0, none⟩), .int .i64 k, undef, u11, u12, u13, u14, u15, .slice (some ⟨ga, oa, none⟩) ll cp, .int .i64 ll, .bool false, .bool false, .string nm, .bool false, .bool false, .bool false, .string row, .bool false, .bool false, .agg #[.slice none 0 0], .pointer (some ⟨wt, 0, none⟩), .int .i64 k, .slice (some ⟨ga, oa, none⟩) ll cp, .int .i64 ll, .bool true, u33, u34, .slice (some ⟨ga, oa, none⟩) ll cp, .int .i64 k, .pointer (some ⟨ga, oa + k * 5, none⟩), .agg #[.int .i64 ek, .string eS, .string eT, .string eR, .string eV], .bool false, g 40, g 41, g 42, g 43, g 44, g 45, g 46, g 47, g 48, g 49, g 50, g 51, g 52, g 53, g 54, g 55, g 56, g 57, g 58, g 59, g 60, g 61, u62, u63, u64, u65, u66, u67, u68, u69, u70, u71, u72, u73, u74, u75, u76, u77, u78, u79, u80, u81, u82, u83, u84, u85, u86, u87, u88, u89, u90, u91, u92, u93, u94, u95, u96], defers := [] }
def dstTa (i : Nat) : Nat := ([40, 41, 42, 43, 44, 45, 46, 47, 48, 49, 50, 51, 52, 53, 54, 55, 56, 57, 58, 59, 60, 61] : List Nat).getD i (2000 + i)
def laysTa (ll : Nat) (cp : Nat) (ga : Nat) (oa : Nat) (k : Nat) (wt : Nat) (ek : Int) (eS : ByteArray) (eT : ByteArray) (eR : ByteArray) (eV : ByteArray) (cA : Int) (nD : Nat) (j : Nat) (v : Value) (_ : World) : Prop :=
  match j with
  | 0 => v = .slice (some ⟨ga, oa, none⟩) ll cp
  | 1 => v = .int .i64 k
  | 2 => v = .pointer (some ⟨ga, oa + k * 5, none⟩)
  | 3 => v = .agg #[.int .i64 ek, .string eS, .string eT, .string eR, .string eV]
  | 4 => v = errOf cA
  | 5 => v = .pointer (some ⟨wt, 0, none⟩)
  | 6 => v = .slice (some ⟨ga, oa, none⟩) ll cp
  | 7 => v = .int .i64 k
  | 8 => v = .pointer (some ⟨ga, oa + k * 5, none⟩)
  | 9 => v = .agg #[.int .i64 ek, .string eS, .string eT, .string eR, .string eV]
  | 10 => v = .int .i64 cA
  | 11 => v = .bool true
  | 12 => v = .bool false
  | 13 => v = .bool false
  | 14 => ∃ q c, v = .slice q nD c
  | 15 => v = .pointer (some ⟨wt, 0, none⟩)
  | 16 => v = .pointer (some ⟨wt, 0, none⟩)
  | 17 => v = .pointer (some ⟨wt, 0, none⟩)
  | 18 => ∃ q c, v = .slice q nD c
  | 19 => v = .bool true
  | 20 => v = .bool false
  | 21 => v = .bool false
  | _ => True
set_option maxRecDepth 100000 in
set_option maxHeartbeats 16000000 in
theorem tap_any (q : Option Addr) (cp : Nat) (es : List Ev) (nm row : ByteArray) (wz : World) (hE : ErrT wz) (_ : es.length ≤ 9223372036854775807) (_ : es.length ≤ cp) (he : evsAt wz q es) :
    Calls Tryz.prog 3 #[.slice q es.length cp, .string nm, .string row] wz (Res true wz) := by
  have EE := Lib.hid hE
  have HE := Lib.hid he
  have LN := fun w => long_any nm w
  have LR := fun w => long_any row w
  clear hE he
  by_cases h40 : (40 : Int) < (es.length : Int)
  · go_enter Tryz.func3, Tryz.ntmps3
    go_wp2_with fail
    go_ret
    exact ⟨rfl, ext_refl _⟩
  cases hln : decide ((60 : Int) < nm.size) with
  | true =>
    rw [hln] at LN
    clear hln
    go_enter Tryz.func3, Tryz.ntmps3
    go_wp2_with fail
    refine (LN _).mono ?_
    rintro _ w1 ⟨rfl, rfl⟩
    go_wp2_with fail
    go_ret
    exact ⟨rfl, ext_refl _⟩
  | false =>
  have SN := Lib.hid (show nm.size ≤ 60 by have := of_decide_eq_false hln; omega)
  rw [hln] at LN
  clear hln
  cases hlr : decide ((60 : Int) < row.size) with
  | true =>
    rw [hlr] at LR
    clear hlr
    go_enter Tryz.func3, Tryz.ntmps3
    go_wp2_with fail
    refine (LN _).mono ?_
    rintro _ w1 ⟨rfl, rfl⟩
    go_wp2_with fail
    refine (LR _).mono ?_
    rintro _ w1 ⟨rfl, rfl⟩
    go_wp2_with fail
    go_ret
    exact ⟨rfl, ext_refl _⟩
  | false =>
  have SR := Lib.hid (show row.size ≤ 60 by have := of_decide_eq_false hlr; omega)
  rw [hlr] at LR
  clear hlr
  have H40 := Lib.hid h40
  go_enter Tryz.func3, Tryz.ntmps3
  go_wp2_with fail
  refine (LN _).mono ?_
  rintro _ w1 ⟨rfl, rfl⟩
  go_wp2_with fail
  refine (LR _).mono ?_
  rintro _ w1 ⟨rfl, rfl⟩
  go_wp2_with fail
  clear LN LR
  have T0 : Hid (tapI wz (wz.heap.size + 1) wz.heap.size 0 [] [] none none 0 ((wz.alloc (.cells #[.slice none 0 0] 27)).alloc (.cells #[.map none] 30))) := Lib.hid (by
    have hs : (wz.alloc (.cells #[.slice none 0 0] 27)).heap.size = wz.heap.size + 1 := by simp
    refine ⟨⟨by rw [← hs]; exact heap_alloc_at _ _, fun _ => rfl, (fun b hb => by cases hb)⟩, (heap_alloc_old _ _ (by simp)).trans (heap_alloc_at _ _), .inl rfl, ⟨Nat.le_refl _, by omega, by omega, by simp <;> omega, by simp <;> omega⟩, (fun b hb => by cases hb), (fun g o s hq => by cases hq), ext_iff.1 (ext_alloc _ (ext_alloc _ (ext_refl wz)))⟩)
  generalize (wz.alloc (.cells #[.slice none 0 0] 27)).alloc (.cells #[.map none] 30) = w2 at T0 ⊢
  generalize wz.heap.size + 1 = tb at T0 ⊢
  generalize hwt : wz.heap.size = wt at T0 ⊢
  clear hwt
  go_loopw [9] (fun iv wr => ∃ (k : Nat) (T D : List Cell) (mb : Option Nat) (qd : Option Addr) (cd : Nat), k ≤ es.length ∧ iv = .int .i64 k ∧ Hid (tapI wz tb wt k T D mb qd cd wr) ∧ Hid (D.Perm T ∧ Asc D)) (fun iv _ => es.length - (intOf iv).toNat)
  case atStart => exact ⟨0, [], [], none, none, 0, Nat.zero_le _, rfl, T0, Lib.hid ⟨List.Perm.refl _, List.Pairwise.nil⟩⟩
  case round =>
    clear T0
    obtain ⟨k, T, D, mb, qd, cd, hk, rfl, HI, HP⟩ := hrel
    by_cases hlt : k < es.length
    · have hlt' : (k : Int) < es.length := by omega
      have hx := List.getElem?_eq_getElem hlt
      rcases HE.out with h0 | ⟨ga, oa, rfl, hga, hca⟩
      · rw [h0] at hlt; cases hlt
      have EV := Lib.hid (show ∀ w, Below wz.heap.size wz w → (w.cell? ⟨ga, oa + k * 5, none⟩ = some (.int .i64 es[k].kind) ∧ w.cell? ⟨ga, oa + k * 5 + 1, none⟩ = some (.string es[k].subject) ∧ w.cell? ⟨ga, oa + k * 5 + 2, none⟩ = some (.string es[k].table) ∧ w.cell? ⟨ga, oa + k * 5 + 3, none⟩ = some (.string es[k].row) ∧ w.cell? ⟨ga, oa + k * 5 + 4, none⟩ = some (.string es[k].value)) ∧ ga < w.heap.size from
        fun w hw => ⟨evsAt_cells (w := w) (g := ga) (o := oa) (j := k) (fun j e hj i v hi => cell_below (p := ⟨ga, oa + j * 5 + i, none⟩) hw hga (hca j e hj i v hi)) hx, Nat.lt_of_lt_of_le hga hw.size⟩)
      generalize es[k] = e at EV
      clear hx hca hga
      obtain ⟨⟨e0, e1, e2, e3, e4⟩, hgw⟩ := EV.out wr HI.out.b
      have LE := fun w => longe_any e w
      obtain ⟨E, HEE⟩ : ∃ E, Hid (E = e) := ⟨e, Lib.hid rfl⟩
      obtain ⟨ek, eS, eT, eR, eV⟩ := e
      unfold evV at LE
      dsimp only at LE e0 e1 e2 e3 e4
      go_wp2_with fail
      refine (LE _).mono ?_
      rintro _ w3 ⟨rfl, hx3⟩
      have I3 := Lib.hid (HI.out.ext hx3)
      clear hx3 HI e0 e1 e2 e3 e4 hgw LE
      cases hlb : (decide ((60 : Int) < eS.size) || decide ((60 : Int) < eT.size) || decide ((60 : Int) < eR.size) || decide ((60 : Int) < eV.size)) with
      | true =>
        have HX := Lib.hid (ext_of I3.out.b)
        clear I3 HP hlb
        go_wp2_with fail
        go_ret
        exact ⟨rfl, HX.out⟩
      | false =>
        have SE := Lib.hid (show E.subject.size ≤ 60 ∧ E.table.size ≤ 60 ∧ E.row.size ≤ 60 ∧ E.value.size ≤ 60 by
          rw [HEE.out]
          simp only [Bool.or_eq_false_iff, decide_eq_false_iff_not] at hlb
          dsimp only
          omega)
        clear hlb
        go_upto_region 10 with fail
        obtain ⟨Dn, hn1, hn2, hn3, hn4⟩ := ex_next E HP.out.1 HP.out.2 I3.out.tab.once
        have NX := Lib.hid (And.intro hn1 (And.intro hn2 (And.intro hn3 hn4)))
        clear hn1 hn2 hn3 hn4
        have SZ := SE
        have KB := Lib.hid (show k + 1 ≤ 1048576 by omega)
        have DL := Lib.hid (show D.length ≤ 40 by have h1 := HP.out.1.length_eq; have h2 := tabAt.len I3.out.tab; omega)
        have DO := Lib.hid HP.out.2.once
        rw [HEE.out] at NX SZ
        have DN := Lib.hid (show Dn.length ≤ 1048576 by
          have h1 := NX.out.1.length_eq
          have h2 := applyT_len okV (⟨ek, eS, eT, eR, eV⟩ : Ev) T
          have h3 := tabAt.len I3.out.tab
          omega)
        obtain ⟨cA, hcA⟩ : ∃ c, codA (⟨ek, eS, eT, eR, eV⟩ : Ev) = c := ⟨_, rfl⟩
        have CA := Lib.hid hcA
        clear hcA
        have tapC0 : Hid (∀ va vb, tapC wz tb wt k T (applyT okV (⟨ek, eS, eT, eR, eV⟩ : Ev) T) D Dn false false false false false false false va vb w3.drew) := Lib.hid fun va vb =>
          ⟨⟨mb, qd, cd, by rw [if_neg (by simp), if_neg (by simp), if_neg (by simp)]; exact I3.out.ext (ext_drew (ext_refl _))⟩, (fun h => by cases h), (fun h => by cases h), (fun h => by cases h), (fun h => by cases h), (fun h => by cases h), (fun h => by cases h), (fun h => by cases h)⟩
        refine wp_region_slots (frTa es.length cp nm row ga oa k wt tb ek eS eT eR eV u6 u11 u12 u13 u14 u15 u33 u34 u62 u63 u64 u65 u66 u67 u68 u69 u70 u71 u72 u73 u74 u75 u76 u77 u78 u79 u80 u81 u82 u83 u84 u85 u86 u87 u88 u89 u90 u91 u92 u93 u94 u95 u96) dstTa (fun k => if k = 40 then u40 else if k = 41 then u41 else if k = 42 then u42 else if k = 43 then u43 else if k = 44 then u44 else if k = 45 then u45 else if k = 46 then u46 else if k = 47 then u47 else if k = 48 then u48 else if k = 49 then u49 else if k = 50 then u50 else if k = 51 then u51 else if k = 52 then u52 else if k = 53 then u53 else if k = 54 then u54 else if k = 55 then u55 else if k = 56 then u56 else if k = 57 then u57 else if k = 58 then u58 else if k = 59 then u59 else if k = 60 then u60 else if k = 61 then u61 else undef) (laysTa es.length cp ga oa k wt ek eS eT eR eV cA Dn.length) (fun L g w => tapC wz tb wt k T (applyT okV (⟨ek, eS, eT, eR, eV⟩ : Ev) T) D Dn (L 4) (L 10) (L 11) (L 12) (L 13) (L 14) (L 18) (g 54) (g 58) w) (fun w w' => True) (by kernel_rfl) (by kernel_rfl) rfl ?_ (by kernel_rfl) (tapC0.out _ _) ?_ ?_
        · exact fun _ _ _ _ _ h => h
        · refine ⟨?_, ?_, ?_, ?_, ?_, ?_, ?_, ?_, ?_, ?_, ?_, ?_, ?_, ?_, ?_, ?_, ?_, ?_, ?_, ?_, ?_, ?_, trivial⟩
          all_goals (intro L gs w1 hLi hdeps hR hC; refine ends_of fun Q hQ => ?_)
          · have HQ := fun (a' : Act) (va : Value) (w' : World) (h1 : a' = frTa es.length cp nm row ga oa k wt tb ek eS eT eR eV u6 u11 u12 u13 u14 u15 u33 u34 u62 u63 u64 u65 u66 u67 u68 u69 u70 u71 u72 u73 u74 u75 u76 u77 u78 u79 u80 u81 u82 u83 u84 u85 u86 u87 u88 u89 u90 u91 u92 u93 u94 u95 u96 (upd1 gs 40 va)) h2 (h3 : laysTa es.length cp ga oa k wt ek eS eT eR eV cA Dn.length 0 va w') h4 => hQ.out a' w' ⟨va, h1, h2, h3, h4⟩
            unfold frTa
            go_wp2_with fail
            exact HQ _ (.slice (some ⟨ga, oa, none⟩) es.length cp) _ (by simp only [frTa, upd1, Nat.reduceEqDiff, reduceIte]) trivial rfl hC
          · have HQ := fun (a' : Act) (va : Value) (w' : World) (h1 : a' = frTa es.length cp nm row ga oa k wt tb ek eS eT eR eV u6 u11 u12 u13 u14 u15 u33 u34 u62 u63 u64 u65 u66 u67 u68 u69 u70 u71 u72 u73 u74 u75 u76 u77 u78 u79 u80 u81 u82 u83 u84 u85 u86 u87 u88 u89 u90 u91 u92 u93 u94 u95 u96 (upd1 gs 41 va)) h2 (h3 : laysTa es.length cp ga oa k wt ek eS eT eR eV cA Dn.length 1 va w') h4 => hQ.out a' w' ⟨va, h1, h2, h3, h4⟩
            unfold frTa
            go_wp2_with fail
            exact HQ _ (.int .i64 k) _ (by simp only [frTa, upd1, Nat.reduceEqDiff, reduceIte]) trivial rfl hC
          · have HQ := fun (a' : Act) (va : Value) (w' : World) (h1 : a' = frTa es.length cp nm row ga oa k wt tb ek eS eT eR eV u6 u11 u12 u13 u14 u15 u33 u34 u62 u63 u64 u65 u66 u67 u68 u69 u70 u71 u72 u73 u74 u75 u76 u77 u78 u79 u80 u81 u82 u83 u84 u85 u86 u87 u88 u89 u90 u91 u92 u93 u94 u95 u96 (upd1 gs 42 va)) h2 (h3 : laysTa es.length cp ga oa k wt ek eS eT eR eV cA Dn.length 2 va w') h4 => hQ.out a' w' ⟨va, h1, h2, h3, h4⟩
            have r0 : gs 40 = .slice (some ⟨ga, oa, none⟩) es.length cp := hR 0 (hdeps ⟨0, .data⟩ (by simp) rfl)
            have r1 : gs 41 = .int .i64 k := hR 1 (hdeps ⟨1, .data⟩ (by simp) rfl)
            unfold frTa
            go_wp2_with fail
            exact HQ _ (.pointer (some ⟨ga, oa + k * 5, none⟩)) _ (by simp only [frTa, upd1, r0, r1, Nat.reduceEqDiff, reduceIte]) trivial rfl hC
          · have HQ := fun (a' : Act) (va : Value) (w' : World) (h1 : a' = frTa es.length cp nm row ga oa k wt tb ek eS eT eR eV u6 u11 u12 u13 u14 u15 u33 u34 u62 u63 u64 u65 u66 u67 u68 u69 u70 u71 u72 u73 u74 u75 u76 u77 u78 u79 u80 u81 u82 u83 u84 u85 u86 u87 u88 u89 u90 u91 u92 u93 u94 u95 u96 (upd1 gs 43 va)) h2 (h3 : laysTa es.length cp ga oa k wt ek eS eT eR eV cA Dn.length 3 va w') h4 => hQ.out a' w' ⟨va, h1, h2, h3, h4⟩
            have r2 : gs 42 = .pointer (some ⟨ga, oa + k * 5, none⟩) := hR 2 (hdeps ⟨2, .data⟩ (by simp) rfl)
            obtain ⟨mb1, qx, cx, ht⟩ := hC.t
            obtain ⟨⟨m0, m1, m2, m3, m4⟩, hgw⟩ := EV.out w1 ht.b
            unfold frTa
            go_wp2_with fail
            exact HQ _ (.agg #[.int .i64 ek, .string eS, .string eT, .string eR, .string eV]) _ (by simp only [frTa, upd1, r2, Nat.reduceEqDiff, reduceIte]) trivial rfl hC
          · have HQ := fun (a' : Act) (va : Value) (w' : World) (h1 : a' = frTa es.length cp nm row ga oa k wt tb ek eS eT eR eV u6 u11 u12 u13 u14 u15 u33 u34 u62 u63 u64 u65 u66 u67 u68 u69 u70 u71 u72 u73 u74 u75 u76 u77 u78 u79 u80 u81 u82 u83 u84 u85 u86 u87 u88 u89 u90 u91 u92 u93 u94 u95 u96 (upd1 gs 44 va)) h2 (h3 : laysTa es.length cp ga oa k wt ek eS eT eR eV cA Dn.length 4 va w') h4 => hQ.out a' w' ⟨va, h1, h2, h3, h4⟩
            have r3 : gs 43 = .agg #[.int .i64 ek, .string eS, .string eT, .string eR, .string eV] := hR 3 (hdeps ⟨3, .data⟩ (by simp) rfl)
            obtain ⟨mb1, qx, cx, ht⟩ := hC.t
            have h4 : L 4 = false := hLi
            rw [if_neg (by rw [h4]; simp), if_neg (by rw [h4]; simp)] at ht
            have VA := ht.vapply (⟨ek, eS, eT, eR, eV⟩ : Ev) (by have := KB.out; omega) (by have := SZ.out; exact ⟨by omega, by omega, by omega⟩)
            unfold evV at VA
            dsimp only at VA
            rw [vsays, CA.out] at VA
            have HTI := Lib.hid ht.b
            clear ht
            unfold frTa
            go_wp2_with fail
            refine VA.mono ?_
            rintro _ w5 ⟨rfl, mb2, hX⟩
            clear VA
            go_wp2_with fail
            exact HQ _ (errOf cA) _ (by simp only [frTa, upd1, r3, Nat.reduceEqDiff, reduceIte]) trivial rfl (hC.s4 h4 hX)
          · have HQ := fun (a' : Act) (va : Value) (w' : World) (h1 : a' = frTa es.length cp nm row ga oa k wt tb ek eS eT eR eV u6 u11 u12 u13 u14 u15 u33 u34 u62 u63 u64 u65 u66 u67 u68 u69 u70 u71 u72 u73 u74 u75 u76 u77 u78 u79 u80 u81 u82 u83 u84 u85 u86 u87 u88 u89 u90 u91 u92 u93 u94 u95 u96 (upd1 gs 45 va)) h2 (h3 : laysTa es.length cp ga oa k wt ek eS eT eR eV cA Dn.length 5 va w') h4 => hQ.out a' w' ⟨va, h1, h2, h3, h4⟩
            unfold frTa
            go_wp2_with fail
            exact HQ _ (.pointer (some ⟨wt, 0, none⟩)) _ (by simp only [frTa, upd1, Nat.reduceEqDiff, reduceIte]) trivial rfl hC
          · have HQ := fun (a' : Act) (va : Value) (w' : World) (h1 : a' = frTa es.length cp nm row ga oa k wt tb ek eS eT eR eV u6 u11 u12 u13 u14 u15 u33 u34 u62 u63 u64 u65 u66 u67 u68 u69 u70 u71 u72 u73 u74 u75 u76 u77 u78 u79 u80 u81 u82 u83 u84 u85 u86 u87 u88 u89 u90 u91 u92 u93 u94 u95 u96 (upd1 gs 46 va)) h2 (h3 : laysTa es.length cp ga oa k wt ek eS eT eR eV cA Dn.length 6 va w') h4 => hQ.out a' w' ⟨va, h1, h2, h3, h4⟩
            unfold frTa
            go_wp2_with fail
            exact HQ _ (.slice (some ⟨ga, oa, none⟩) es.length cp) _ (by simp only [frTa, upd1, Nat.reduceEqDiff, reduceIte]) trivial rfl hC
          · have HQ := fun (a' : Act) (va : Value) (w' : World) (h1 : a' = frTa es.length cp nm row ga oa k wt tb ek eS eT eR eV u6 u11 u12 u13 u14 u15 u33 u34 u62 u63 u64 u65 u66 u67 u68 u69 u70 u71 u72 u73 u74 u75 u76 u77 u78 u79 u80 u81 u82 u83 u84 u85 u86 u87 u88 u89 u90 u91 u92 u93 u94 u95 u96 (upd1 gs 47 va)) h2 (h3 : laysTa es.length cp ga oa k wt ek eS eT eR eV cA Dn.length 7 va w') h4 => hQ.out a' w' ⟨va, h1, h2, h3, h4⟩
            unfold frTa
            go_wp2_with fail
            exact HQ _ (.int .i64 k) _ (by simp only [frTa, upd1, Nat.reduceEqDiff, reduceIte]) trivial rfl hC
          · have HQ := fun (a' : Act) (va : Value) (w' : World) (h1 : a' = frTa es.length cp nm row ga oa k wt tb ek eS eT eR eV u6 u11 u12 u13 u14 u15 u33 u34 u62 u63 u64 u65 u66 u67 u68 u69 u70 u71 u72 u73 u74 u75 u76 u77 u78 u79 u80 u81 u82 u83 u84 u85 u86 u87 u88 u89 u90 u91 u92 u93 u94 u95 u96 (upd1 gs 48 va)) h2 (h3 : laysTa es.length cp ga oa k wt ek eS eT eR eV cA Dn.length 8 va w') h4 => hQ.out a' w' ⟨va, h1, h2, h3, h4⟩
            have r6 : gs 46 = .slice (some ⟨ga, oa, none⟩) es.length cp := hR 6 (hdeps ⟨6, .data⟩ (by simp) rfl)
            have r7 : gs 47 = .int .i64 k := hR 7 (hdeps ⟨7, .data⟩ (by simp) rfl)
            unfold frTa
            go_wp2_with fail
            exact HQ _ (.pointer (some ⟨ga, oa + k * 5, none⟩)) _ (by simp only [frTa, upd1, r6, r7, Nat.reduceEqDiff, reduceIte]) trivial rfl hC
          · have HQ := fun (a' : Act) (va : Value) (w' : World) (h1 : a' = frTa es.length cp nm row ga oa k wt tb ek eS eT eR eV u6 u11 u12 u13 u14 u15 u33 u34 u62 u63 u64 u65 u66 u67 u68 u69 u70 u71 u72 u73 u74 u75 u76 u77 u78 u79 u80 u81 u82 u83 u84 u85 u86 u87 u88 u89 u90 u91 u92 u93 u94 u95 u96 (upd1 gs 49 va)) h2 (h3 : laysTa es.length cp ga oa k wt ek eS eT eR eV cA Dn.length 9 va w') h4 => hQ.out a' w' ⟨va, h1, h2, h3, h4⟩
            have r8 : gs 48 = .pointer (some ⟨ga, oa + k * 5, none⟩) := hR 8 (hdeps ⟨8, .data⟩ (by simp) rfl)
            obtain ⟨mb1, qx, cx, ht⟩ := hC.t
            obtain ⟨⟨m0, m1, m2, m3, m4⟩, hgw⟩ := EV.out w1 ht.b
            unfold frTa
            go_wp2_with fail
            exact HQ _ (.agg #[.int .i64 ek, .string eS, .string eT, .string eR, .string eV]) _ (by simp only [frTa, upd1, r8, Nat.reduceEqDiff, reduceIte]) trivial rfl hC
          · have HQ := fun (a' : Act) (va : Value) (w' : World) (h1 : a' = frTa es.length cp nm row ga oa k wt tb ek eS eT eR eV u6 u11 u12 u13 u14 u15 u33 u34 u62 u63 u64 u65 u66 u67 u68 u69 u70 u71 u72 u73 u74 u75 u76 u77 u78 u79 u80 u81 u82 u83 u84 u85 u86 u87 u88 u89 u90 u91 u92 u93 u94 u95 u96 (upd1 gs 50 va)) h2 (h3 : laysTa es.length cp ga oa k wt ek eS eT eR eV cA Dn.length 10 va w') h4 => hQ.out a' w' ⟨va, h1, h2, h3, h4⟩
            have r5 : gs 45 = .pointer (some ⟨wt, 0, none⟩) := hR 5 (hdeps ⟨5, .data⟩ (by simp) rfl)
            have r9 : gs 49 = .agg #[.int .i64 ek, .string eS, .string eT, .string eR, .string eV] := hR 9 (hdeps ⟨9, .data⟩ (by simp) rfl)
            obtain ⟨mb1, qx, cx, ht⟩ := hC.t
            have h10 : L 10 = false := hLi
            rw [if_neg (c := L 10 = true) (by rw [h10]; simp)] at ht
            have RA := ht.rboth (⟨ek, eS, eT, eR, eV⟩ : Ev) DL.out SZ.out DO.out NX.out.2.2.1 NX.out.2.1 NX.out.2.2.2
            unfold evV at RA
            dsimp only at RA
            rw [CA.out] at RA
            clear ht
            unfold frTa
            go_wp2_with fail
            refine RA.mono ?_
            rintro _ w5 ⟨rfl, q2, c2, hX⟩
            clear RA
            go_wp2_with fail
            exact HQ _ (.int .i64 cA) _ (by simp only [frTa, upd1, r5, r9, Nat.reduceEqDiff, reduceIte]) trivial rfl (hC.s10 h10 hX)
          · have HQ := fun (a' : Act) (va : Value) (w' : World) (h1 : a' = frTa es.length cp nm row ga oa k wt tb ek eS eT eR eV u6 u11 u12 u13 u14 u15 u33 u34 u62 u63 u64 u65 u66 u67 u68 u69 u70 u71 u72 u73 u74 u75 u76 u77 u78 u79 u80 u81 u82 u83 u84 u85 u86 u87 u88 u89 u90 u91 u92 u93 u94 u95 u96 (upd1 gs 51 va)) h2 (h3 : laysTa es.length cp ga oa k wt ek eS eT eR eV cA Dn.length 11 va w') h4 => hQ.out a' w' ⟨va, h1, h2, h3, h4⟩
            have r4 : gs 44 = errOf cA := hR 4 (hdeps ⟨4, .data⟩ (by simp) rfl)
            have r10 : gs 50 = .int .i64 cA := hR 10 (hdeps ⟨10, .data⟩ (by simp) rfl)
            obtain ⟨mb1, qx, cx, ht⟩ := hC.t
            have HB := Lib.hid ht.b
            clear ht
            unfold frTa
            go_wp2_with fail
            refine (bare_any (errOf cA) (errOf_is cA) cA w1 (ErrT_of EE.out (fun _ hk => HB.out.block _ hk))).mono ?_
            rintro _ w5 ⟨rfl, hx⟩
            rw [errOf_num cA]
            go_wp2_with fail
            exact HQ _ (.bool true) _ (by simp only [frTa, upd1, r4, r10, Nat.reduceEqDiff, reduceIte]) trivial rfl ((hC.ext hx).s11 (hdeps ⟨4, .data⟩ (by simp) rfl) (hdeps ⟨10, .data⟩ (by simp) rfl))
          · have HQ := fun (a' : Act) (va : Value) (w' : World) (h1 : a' = frTa es.length cp nm row ga oa k wt tb ek eS eT eR eV u6 u11 u12 u13 u14 u15 u33 u34 u62 u63 u64 u65 u66 u67 u68 u69 u70 u71 u72 u73 u74 u75 u76 u77 u78 u79 u80 u81 u82 u83 u84 u85 u86 u87 u88 u89 u90 u91 u92 u93 u94 u95 u96 (upd1 gs 52 va)) h2 (h3 : laysTa es.length cp ga oa k wt ek eS eT eR eV cA Dn.length 12 va w') h4 => hQ.out a' w' ⟨va, h1, h2, h3, h4⟩
            have r11 : gs 51 = .bool true := hR 11 (hdeps ⟨11, .data⟩ (by simp) rfl)
            unfold frTa
            go_wp2_with fail
            exact HQ _ (.bool false) _ (by simp only [frTa, upd1, r11, Nat.reduceEqDiff, reduceIte]) trivial rfl (hC.s12 (hdeps ⟨11, .data⟩ (by simp) rfl))
          · have HQ := fun (a' : Act) (va : Value) (w' : World) (h1 : a' = frTa es.length cp nm row ga oa k wt tb ek eS eT eR eV u6 u11 u12 u13 u14 u15 u33 u34 u62 u63 u64 u65 u66 u67 u68 u69 u70 u71 u72 u73 u74 u75 u76 u77 u78 u79 u80 u81 u82 u83 u84 u85 u86 u87 u88 u89 u90 u91 u92 u93 u94 u95 u96 (upd1 gs 53 va)) h2 (h3 : laysTa es.length cp ga oa k wt ek eS eT eR eV cA Dn.length 13 va w') h4 => hQ.out a' w' ⟨va, h1, h2, h3, h4⟩
            have r12 : gs 52 = .bool false := hR 12 (hdeps ⟨12, .data⟩ (by simp) rfl)
            unfold frTa
            go_wp2_with fail
            exact HQ _ (.bool false) _ (by simp only [frTa, upd1, r12, Nat.reduceEqDiff, reduceIte]) trivial rfl (hC.s13 (hdeps ⟨12, .data⟩ (by simp) rfl))
          · have HQ := fun (a' : Act) (va : Value) (w' : World) (h1 : a' = frTa es.length cp nm row ga oa k wt tb ek eS eT eR eV u6 u11 u12 u13 u14 u15 u33 u34 u62 u63 u64 u65 u66 u67 u68 u69 u70 u71 u72 u73 u74 u75 u76 u77 u78 u79 u80 u81 u82 u83 u84 u85 u86 u87 u88 u89 u90 u91 u92 u93 u94 u95 u96 (upd1 gs 54 va)) h2 (h3 : laysTa es.length cp ga oa k wt ek eS eT eR eV cA Dn.length 14 va w') h4 => hQ.out a' w' ⟨va, h1, h2, h3, h4⟩
            have r13 : gs 53 = .bool false := hR 13 (hdeps ⟨13, .guard⟩ (by simp) rfl)
            have l13 : L 13 = true := hdeps ⟨13, .guard⟩ (by simp) rfl
            obtain ⟨mb1, qx, cx, ht⟩ := hC.t
            have ha := hC.all l13
            rw [if_pos ha.1, if_pos ha.1, if_pos ha.2] at ht
            have CP := cells_both ht KB.out NX.out.1 NX.out.2.1 rfl
            clear ht
            unfold frTa
            go_wp2_with fail
            refine CP.mono ?_
            rintro _ w5 ⟨⟨q5, c5, rfl, hc5⟩, hx⟩
            clear CP
            go_wp2_with fail
            exact HQ _ (.slice q5 Dn.length c5) _ (by simp only [frTa, upd1, r13, Nat.reduceEqDiff, reduceIte]) trivial ⟨_, _, rfl⟩ ((hC.ext hx).s14 l13 hc5)
          · have HQ := fun (a' : Act) (va : Value) (w' : World) (h1 : a' = frTa es.length cp nm row ga oa k wt tb ek eS eT eR eV u6 u11 u12 u13 u14 u15 u33 u34 u62 u63 u64 u65 u66 u67 u68 u69 u70 u71 u72 u73 u74 u75 u76 u77 u78 u79 u80 u81 u82 u83 u84 u85 u86 u87 u88 u89 u90 u91 u92 u93 u94 u95 u96 (upd1 gs 55 va)) h2 (h3 : laysTa es.length cp ga oa k wt ek eS eT eR eV cA Dn.length 15 va w') h4 => hQ.out a' w' ⟨va, h1, h2, h3, h4⟩
            have r13 : gs 53 = .bool false := hR 13 (hdeps ⟨13, .guard⟩ (by simp) rfl)
            have l13 : L 13 = true := hdeps ⟨13, .guard⟩ (by simp) rfl
            unfold frTa
            go_wp2_with fail
            exact HQ _ (.pointer (some ⟨wt, 0, none⟩)) _ (by simp only [frTa, upd1, r13, Nat.reduceEqDiff, reduceIte]) trivial rfl hC
          · have HQ := fun (a' : Act) (va : Value) (w' : World) (h1 : a' = frTa es.length cp nm row ga oa k wt tb ek eS eT eR eV u6 u11 u12 u13 u14 u15 u33 u34 u62 u63 u64 u65 u66 u67 u68 u69 u70 u71 u72 u73 u74 u75 u76 u77 u78 u79 u80 u81 u82 u83 u84 u85 u86 u87 u88 u89 u90 u91 u92 u93 u94 u95 u96 (upd1 gs 56 va)) h2 (h3 : laysTa es.length cp ga oa k wt ek eS eT eR eV cA Dn.length 16 va w') h4 => hQ.out a' w' ⟨va, h1, h2, h3, h4⟩
            have r15 : gs 55 = .pointer (some ⟨wt, 0, none⟩) := hR 15 (hdeps ⟨15, .data⟩ (by simp) rfl)
            have r13 : gs 53 = .bool false := hR 13 (hdeps ⟨13, .guard⟩ (by simp) rfl)
            have l13 : L 13 = true := hdeps ⟨13, .guard⟩ (by simp) rfl
            unfold frTa
            go_wp2_with fail
            exact HQ _ (.pointer (some ⟨wt, 0, none⟩)) _ (by simp only [frTa, upd1, r15, r13, Nat.reduceEqDiff, reduceIte]) trivial rfl hC
          · have HQ := fun (a' : Act) (va : Value) (w' : World) (h1 : a' = frTa es.length cp nm row ga oa k wt tb ek eS eT eR eV u6 u11 u12 u13 u14 u15 u33 u34 u62 u63 u64 u65 u66 u67 u68 u69 u70 u71 u72 u73 u74 u75 u76 u77 u78 u79 u80 u81 u82 u83 u84 u85 u86 u87 u88 u89 u90 u91 u92 u93 u94 u95 u96 (upd1 gs 57 va)) h2 (h3 : laysTa es.length cp ga oa k wt ek eS eT eR eV cA Dn.length 17 va w') h4 => hQ.out a' w' ⟨va, h1, h2, h3, h4⟩
            have r16 : gs 56 = .pointer (some ⟨wt, 0, none⟩) := hR 16 (hdeps ⟨16, .data⟩ (by simp) rfl)
            have r13 : gs 53 = .bool false := hR 13 (hdeps ⟨13, .guard⟩ (by simp) rfl)
            have l13 : L 13 = true := hdeps ⟨13, .guard⟩ (by simp) rfl
            unfold frTa
            go_wp2_with fail
            exact HQ _ (.pointer (some ⟨wt, 0, none⟩)) _ (by simp only [frTa, upd1, r16, r13, Nat.reduceEqDiff, reduceIte]) trivial rfl hC
          · have HQ := fun (a' : Act) (va : Value) (w' : World) (h1 : a' = frTa es.length cp nm row ga oa k wt tb ek eS eT eR eV u6 u11 u12 u13 u14 u15 u33 u34 u62 u63 u64 u65 u66 u67 u68 u69 u70 u71 u72 u73 u74 u75 u76 u77 u78 u79 u80 u81 u82 u83 u84 u85 u86 u87 u88 u89 u90 u91 u92 u93 u94 u95 u96 (upd1 gs 58 va)) h2 (h3 : laysTa es.length cp ga oa k wt ek eS eT eR eV cA Dn.length 18 va w') h4 => hQ.out a' w' ⟨va, h1, h2, h3, h4⟩
            have r17 : gs 57 = .pointer (some ⟨wt, 0, none⟩) := hR 17 (hdeps ⟨17, .data⟩ (by simp) rfl)
            have r13 : gs 53 = .bool false := hR 13 (hdeps ⟨13, .guard⟩ (by simp) rfl)
            have l13 : L 13 = true := hdeps ⟨13, .guard⟩ (by simp) rfl
            obtain ⟨mb1, qx, cx, ht⟩ := hC.t
            have ha := hC.all l13
            rw [if_pos ha.2] at ht
            have k0 : w1.cell? ⟨wt, 0, none⟩ = some (.slice qx Dn.length cx) := by rw [cell_in, ht.doc]; rfl
            have kl := ht.lo.2.2.2.1
            have HRW := Lib.hid ht.rows
            clear ht ha
            unfold frTa
            go_wp2_with fail
            exact HQ _ (.slice qx Dn.length cx) _ (by simp only [frTa, upd1, r17, r13, Nat.reduceEqDiff, reduceIte]) trivial ⟨_, _, rfl⟩ (hC.s18 l13 HRW.out)
          · have HQ := fun (a' : Act) (va : Value) (w' : World) (h1 : a' = frTa es.length cp nm row ga oa k wt tb ek eS eT eR eV u6 u11 u12 u13 u14 u15 u33 u34 u62 u63 u64 u65 u66 u67 u68 u69 u70 u71 u72 u73 u74 u75 u76 u77 u78 u79 u80 u81 u82 u83 u84 u85 u86 u87 u88 u89 u90 u91 u92 u93 u94 u95 u96 (upd1 gs 59 va)) h2 (h3 : laysTa es.length cp ga oa k wt ek eS eT eR eV cA Dn.length 19 va w') h4 => hQ.out a' w' ⟨va, h1, h2, h3, h4⟩
            have r14 := hR 14 (hdeps ⟨14, .data⟩ (by simp) rfl)
            have r18 := hR 18 (hdeps ⟨18, .data⟩ (by simp) rfl)
            have r13 : gs 53 = .bool false := hR 13 (hdeps ⟨13, .guard⟩ (by simp) rfl)
            have l13 : L 13 = true := hdeps ⟨13, .guard⟩ (by simp) rfl
            obtain ⟨qa, ca, ea, ra⟩ := hC.r14 (hdeps ⟨14, .data⟩ (by simp) rfl)
            obtain ⟨qb, cb, eb, rb⟩ := hC.r18 (hdeps ⟨18, .data⟩ (by simp) rfl)
            clear r14 r18
            have SC := sameC_any qa qb ca cb Dn w1 (by have := DN.out; omega) ra rb
            unfold frTa
            go_wp2_with fail
            refine SC.mono ?_
            rintro _ w5 ⟨rfl, hx⟩
            clear SC
            go_wp2_with fail
            exact HQ _ (.bool true) _ (by simp only [frTa, upd1, r13, ea, eb, Nat.reduceEqDiff, reduceIte]) trivial rfl (hC.ext hx)
          · have HQ := fun (a' : Act) (va : Value) (w' : World) (h1 : a' = frTa es.length cp nm row ga oa k wt tb ek eS eT eR eV u6 u11 u12 u13 u14 u15 u33 u34 u62 u63 u64 u65 u66 u67 u68 u69 u70 u71 u72 u73 u74 u75 u76 u77 u78 u79 u80 u81 u82 u83 u84 u85 u86 u87 u88 u89 u90 u91 u92 u93 u94 u95 u96 (upd1 gs 60 va)) h2 (h3 : laysTa es.length cp ga oa k wt ek eS eT eR eV cA Dn.length 20 va w') h4 => hQ.out a' w' ⟨va, h1, h2, h3, h4⟩
            have r19 : gs 59 = .bool true := hR 19 (hdeps ⟨19, .data⟩ (by simp) rfl)
            have r13 : gs 53 = .bool false := hR 13 (hdeps ⟨13, .guard⟩ (by simp) rfl)
            have l13 : L 13 = true := hdeps ⟨13, .guard⟩ (by simp) rfl
            unfold frTa
            go_wp2_with fail
            exact HQ _ (.bool false) _ (by simp only [frTa, upd1, r19, r13, Nat.reduceEqDiff, reduceIte]) trivial rfl hC
          · have HQ := fun (a' : Act) (va : Value) (w' : World) (h1 : a' = frTa es.length cp nm row ga oa k wt tb ek eS eT eR eV u6 u11 u12 u13 u14 u15 u33 u34 u62 u63 u64 u65 u66 u67 u68 u69 u70 u71 u72 u73 u74 u75 u76 u77 u78 u79 u80 u81 u82 u83 u84 u85 u86 u87 u88 u89 u90 u91 u92 u93 u94 u95 u96 (upd1 gs 61 va)) h2 (h3 : laysTa es.length cp ga oa k wt ek eS eT eR eV cA Dn.length 21 va w') h4 => hQ.out a' w' ⟨va, h1, h2, h3, h4⟩
            have r13 : gs 53 = .bool false := hR 13 (hdeps ⟨13, .data⟩ (by simp) rfl)
            have r20 : gs 60 = .bool false := hR 20 (hdeps ⟨20, .data⟩ (by simp) rfl)
            unfold frTa
            go_wp2_with fail
            exact HQ _ (.bool false) _ (by simp only [frTa, upd1, r13, r20, Nat.reduceEqDiff, reduceIte]) trivial rfl hC
        intro L1 g1 w9 hall hR hC
        have r21 : g1 61 = .bool false := hR 21 (by decide)
        have h4 := hall 4 (by decide)
        have h10 := hall 10 (by decide)
        obtain ⟨mb9, q9, c9, ht⟩ := hC.t
        rw [if_pos h4, if_pos h4, if_pos h10] at ht
        have I9 := Lib.hid ht
        clear hall hR hC h4 h10 ht tapC0 I3
        unfold frTa
        rw [r21]
        clear r21
        have HPn := Lib.hid (show Dn.Perm (applyT okV (⟨ek, eS, eT, eR, eV⟩ : Ev) T) ∧ Asc Dn from ⟨NX.out.1, NX.out.2.1⟩)
        generalize applyT okV (⟨ek, eS, eT, eR, eV⟩ : Ev) T = T9 at I9 HPn
        clear NX CA DL DO HP
        obtain ⟨⟨m0, m1, m2, m3, m4⟩, hgw⟩ := EV.out w9 I9.out.b
        go_wp2_with fail
        clear m0 m1 m2 m3 m4 hgw
        have I10 := Lib.hid (I9.out.ext (ext_alloc (.cells #[.string row, .string eR] 9) (ext_refl _)))
        have NB := Lib.hid (heap_alloc_at w9 (.cells #[.string row, .string eR] 9))
        clear I9
        generalize w9.alloc (.cells #[.string row, .string eR] 9) = w10 at I10 NB ⊢
        generalize w9.heap.size = nb at NB ⊢
        go_loopw [70] (fun iv wr => ∃ j : Nat, j ≤ 2 ∧ iv = .int .i64 j ∧ Hid (∃ x, wr = ext w10 x)) (fun iv _ => 2 - (intOf iv).toNat)
        case atStart => exact ⟨0, by omega, rfl, Lib.hid (ext_refl w10)⟩
        case round =>
          obtain ⟨j, hj, rfl, XX⟩ := hrel
          by_cases hj2 : j < 2
          · have hj2' : (j : Int) < 2 := by omega
            obtain ⟨s, hs⟩ : ∃ s : ByteArray, s.size ≤ 60 ∧ (#[Value.string row, Value.string eR] : Array Value)[j]? = some (.string s) := by
              have h1 := SR.out
              have h2 := SZ.out.2.2.1
              match j, hj2 with
              | 0, _ => exact ⟨row, h1, rfl⟩
              | 1, _ => exact ⟨eR, h2, rfl⟩
            have SS := Lib.hid hs.1
            have nb' := ((ext_iff.1 XX.out).block nb (lt_of_heap NB.out)).trans NB.out
            have n0 : wr.cell? ⟨nb, j, none⟩ = some (.string s) := by rw [cell_in, nb']; exact hs.2
            have nl := lt_of_heap nb'
            clear hs nb'
            have I11 := Lib.hid (I10.out.ext XX.out)
            have GS := Lib.hid (get_says (txt nm, txt s) HPn.out.1 I10.out.tab.once)
            go_wp2_with fail
            refine (rget_any nm s wt q9 c9 Dn _ I11.out.doc I11.out.rows DN.out).mono ?_
            clear n0 nl I11
            rintro _ w12 ⟨rfl, hx⟩
            have X12 := Lib.hid (ext_trans XX.out hx)
            clear hx XX
            obtain ⟨y, cy, g1', g2'⟩ := GS.out
            rw [g1']
            have G2 := Lib.hid g2'
            clear g1' g2' GS
            obtain ⟨y0, y1, y2, y3⟩ := y
            unfold cellA at G2 ⊢
            dsimp only at G2 ⊢
            go_wp2_with fail
            have X13 := Lib.hid (ext_alloc (.cells #[.string y0, .string y1, .string y2, .string y3] 44) X12.out)
            have A13 := Lib.hid (heap_alloc_at w12 (.cells #[.string y0, .string y1, .string y2, .string y3] 44))
            clear X12
            generalize w12.alloc (.cells #[.string y0, .string y1, .string y2, .string y3] 44) = w13 at X13 A13 ⊢
            generalize w12.heap.size = ba at A13 ⊢
            refine (get_any nm s w13 tb mb9 (k + 1) T9 (I10.out.ext X13.out).tab (by have := SN.out; unfold maxLen; omega) (by have := SS.out; unfold maxLen; omega)).mono ?_
            rintro _ w14 ⟨rfl, hx⟩
            rw [G2.out]
            have X14 := Lib.hid (ext_trans X13.out hx)
            have A14 := Lib.hid (((ext_iff.1 hx).block ba (lt_of_heap A13.out)).trans A13.out)
            clear hx X13 A13 G2
            go_wp2_with fail
            have X15 := Lib.hid (ext_alloc (.cells #[.string y0, .string y1, .string y2, .string y3] 44) X14.out)
            have A15 := Lib.hid ((heap_alloc_old w14 (.cells #[.string y0, .string y1, .string y2, .string y3] 44) (lt_of_heap A14.out)).trans A14.out)
            have C15 := Lib.hid (heap_alloc_at w14 (.cells #[.string y0, .string y1, .string y2, .string y3] 44))
            clear X14 A14
            generalize w14.alloc (.cells #[.string y0, .string y1, .string y2, .string y3] 44) = w15 at X15 A15 C15 ⊢
            generalize w14.heap.size = bc at C15 ⊢
            have BB := Lib.hid (I10.out.ext X15.out).b
            refine (bare_any (errOf cy) (errOf_is cy) cy w15 (ErrT_of EE.out (fun _ hk => BB.out.block _ hk))).mono ?_
            rintro _ w16 ⟨rfl, hx⟩
            rw [errOf_num cy]
            have X16 := Lib.hid (ext_trans X15.out hx)
            have A16 : w16.heap[ba]? = some (.cells #[.string y0, .string y1, .string y2, .string y3] 44 (0, 0)) := ((ext_iff.1 hx).block ba (lt_of_heap A15.out)).trans A15.out
            have C16 : w16.heap[bc]? = some (.cells #[.string y0, .string y1, .string y2, .string y3] 44 (0, 0)) := ((ext_iff.1 hx).block bc (lt_of_heap C15.out)).trans C15.out
            obtain ⟨p0, p1, p2, p3⟩ := cell_cells (c := ⟨y0, y1, y2, y3⟩) A16
            obtain ⟨r0, r1, r2, r3⟩ := cell_cells (c := ⟨y0, y1, y2, y3⟩) C16
            have pl := lt_of_heap A16
            have rl := lt_of_heap C16
            dsimp only at p0 p1 p2 p3 r0 r1 r2 r3
            clear hx X15 A15 C15 BB A16 C16
            go_wp2_with fail
            go_roundw
            case rel => exact ⟨j + 1, hj2, by go_num, X16⟩
            case measure => simp [intOf]; omega
          · obtain rfl : j = 2 := by omega
            have I11 := Lib.hid (I10.out.ext XX.out)
            clear I10 XX NB
            go_wp2_with fail
            go_roundw
            case rel => exact ⟨k + 1, T9, Dn, mb9, q9, c9, hlt, by go_num, I11, HPn⟩
            case measure => simp [intOf]; omega
    · obtain rfl : k = es.length := by omega
      have HX := Lib.hid (ext_of HI.out.b)
      clear HI HP
      go_wp2_with fail
      go_ret
      exact ⟨rfl, HX.out⟩
end Go.Proofs.YtcbcknfhblamfaaGreatDoor
