/- oubliettekeep.TableLast (the walk). -/
import Derived.Test.YtjmbobjifojoiaaDoorProg
import Derived.Test.YtjmbobjifojoiaaDoorLast2
import Derived.Test.YtjmbobjifojoiaaDoorTabIn
import Derived.Test.YtjmbobjifojoiaaDoorInv
namespace Go.Proofs.YtjmbobjifojoiaaDoor
open Go.RowKit Go.Shelf

def smallE (e : Ev) : Prop := e.subject.size ≤ 1048576 ∧ e.table.size ≤ 1048576 ∧ e.row.size ≤ 1048576
theorem few_small {l : List Ev} (h : fewB l = true) : l.length ≤ 30 ∧ ∀ e ∈ l, smallE e := by
  unfold fewB at h
  simp only [Bool.and_eq_true, decide_eq_true_eq, Bool.not_eq_true', List.any_eq_false] at h
  refine ⟨by omega, fun e he => ?_⟩
  have := h.2 e he
  unfold longE at this
  simp only [Bool.or_eq_true, decide_eq_true_eq, not_or] at this
  unfold smallE
  omega
/-- What has been there: the slice's box, its events. -/
structure Env (w : World) (m lb g o cp : Nat) (l : List Ev) : Prop where
  hl : lb < m
  hg : g < m
  hm : m ≤ w.heap.size
  cl : w.cell? ⟨lb, 0, none⟩ = some (.slice (some ⟨g, o, none⟩) l.length cp)
  ev : ∀ j e, l[j]? = some e → ∀ i v, (evVs e)[i]? = some v → w.cell? ⟨g, o + j * 5 + i, none⟩ = some v
theorem Env.at {w w' : World} {m lb g o cp : Nat} {l : List Ev} (h : Env w m lb g o cp l) (hb : Below m w w') : Env w' m lb g o cp l :=
  ⟨h.hl, h.hg, Nat.le_trans h.hm hb.size, cell_below hb h.hl h.cl, fun j e hj i v hi => cell_below (p := ⟨g, o + j * 5 + i, none⟩) hb h.hg (h.ev j e hj i v hi)⟩
theorem Env.cells {w : World} {m lb g o cp : Nat} {l : List Ev} (h : Env w m lb g o cp l) {j : Nat} {x : Ev} (hj : l[j]? = some x) :
    w.cell? ⟨g, o + j * 5, none⟩ = some (.int .i64 x.kind) ∧ w.cell? ⟨g, o + j * 5 + 1, none⟩ = some (.string x.subject) ∧ w.cell? ⟨g, o + j * 5 + 2, none⟩ = some (.string x.table) ∧ w.cell? ⟨g, o + j * 5 + 3, none⟩ = some (.string x.row) ∧ w.cell? ⟨g, o + j * 5 + 4, none⟩ = some (.string x.value) :=
  ⟨h.ev j x hj 0 _ rfl, h.ev j x hj 1 _ rfl, h.ev j x hj 2 _ rfl, h.ev j x hj 3 _ rfl, h.ev j x hj 4 _ rfl⟩
theorem tabIn.small {m : Nat} {w0 w : World} {tb n : Nat} {T : List Cell} (h : tabIn m w0 w tb n T) : ∀ c ∈ T, smallC c := by
  obtain ⟨mb, h1, _⟩ := h
  intro c hc
  cases mb with
  | none => rw [h1.nil rfl] at hc; cases hc
  | some b => exact (h1.map b rfl).small c hc
theorem tabIn.len_le {m : Nat} {w0 w : World} {tb n : Nat} {T : List Cell} (h : tabIn m w0 w tb n T) : T.length ≤ n := by
  obtain ⟨mb, h1, _⟩ := h
  cases mb with
  | none => rw [h1.nil rfl]; exact Nat.zero_le _
  | some b => exact (h1.map b rfl).len_le
theorem ownsCl_shape {w : World} {base : Nat} {v : Value} {l : List Cell} (h : ownsCl w base v l) : ∃ q cap, v = .slice q l.length cap := by
  by_cases e : l = []
  · subst e
    obtain ⟨_, ⟨h1, _⟩ | ⟨g, cap, cur, h1, _⟩⟩ := h
    · exact ⟨none, 0, h1⟩
    · exact ⟨some ⟨g, 0, none⟩, cap, h1⟩
  · obtain ⟨g, cap, cur, hv, _⟩ := ownsCl_form h e
    exact ⟨_, cap, hv⟩
theorem cellsIn_at {w w' : World} {q : Option Addr} {l : List Cell} (h : cellsIn w q l) (hb : Below w.heap.size w w') : cellsIn w' q l := by
  rcases h with h | ⟨g, hq, hg, hc⟩
  · exact .inl h
  · exact .inr ⟨g, hq, Nat.lt_of_lt_of_le hg hb.size, fun j hj i v hi => cell_below (p := ⟨g, 0 + j * 4 + i, none⟩) hb hg (hc j hj i v hi)⟩
theorem cellsIn_cells {w : World} {q : Option Addr} {l : List Cell} (h : cellsIn w q l) {j : Nat} (hj : j < l.length) :
    ∃ g, q = some ⟨g, 0, none⟩ ∧ g < w.heap.size ∧ ∀ i (_ : i < l.length), w.cell? ⟨g, i * 4, none⟩ = some (.string l[i]!.table) ∧ w.cell? ⟨g, i * 4 + 1, none⟩ = some (.string l[i]!.row) ∧ w.cell? ⟨g, i * 4 + 2, none⟩ = some (.string l[i]!.subject) ∧ w.cell? ⟨g, i * 4 + 3, none⟩ = some (.string l[i]!.value) := by
  rcases h with h | ⟨g, hq, hg, hc⟩
  · subst h; cases hj
  · refine ⟨g, hq, hg, fun i hi => ?_⟩
    have h0 := hc i hi 0 _ rfl
    have h1 := hc i hi 1 _ rfl
    have h2 := hc i hi 2 _ rfl
    have h3 := hc i hi 3 _ rfl
    rw [Nat.zero_add] at h0 h1 h2 h3
    exact ⟨h0, h1, h2, h3⟩
/-- The number in a box. -/
def rdI (v : Value) (w : World) : Nat := match v with
  | .pointer (some a) => match w.cell? a with
    | some (.int _ n) => n.toNat
    | _ => 0
  | _ => 0
theorem rdI_at {w : World} {b : Nat} {n : Nat} {t : TypeId} {f : Nat × Nat} (h : w.heap[b]? = some (.cells #[.int .i64 n] t f)) : rdI (.pointer (some ⟨b, 0, none⟩)) w = n := by
  unfold rdI; dsimp only; rw [cell1 h]; simp
theorem wrap_succ {i n : Nat} (h : i < n) (hn : n ≤ 30) : wrap64 ((i : Int) + 1) = ((i + 1 : Nat) : Int) := by unfold wrap64; omega
theorem Env.cap {w : World} {m lb ib g o cp i : Nat} {l : List Ev} {x : Ev} (h : Env w m lb g o cp l) (hI : w.cell? ⟨ib, 0, none⟩ = some (.int .i64 i)) (hib : ib < w.heap.size) (hx : l[i]? = some x) : Cap w lb ib g o l.length cp i x :=
  ⟨Nat.lt_of_lt_of_le h.hl h.hm, hib, Nat.lt_of_lt_of_le h.hg h.hm, h.cl, hI, (List.getElem?_eq_some_iff.1 hx).1, h.ev i x hx⟩
instance : Inhabited {e : Ev // smallE e} := ⟨⟨⟨0, ⟨#[]⟩, ⟨#[]⟩, ⟨#[]⟩, ⟨#[]⟩⟩, by decide, by decide, by decide⟩⟩
theorem Env.rest {w : World} {m lb g o cp : Nat} {l : List Ev} (h : Env w m lb g o cp l) (hcp : l.length ≤ cp) (i : Nat) : evsAt w (if cp = i + 1 then some ⟨g, o, none⟩ else some ⟨g, o + (i + 1) * 5, none⟩) (l.drop (i + 1)) := by
  by_cases h0 : i + 1 < l.length
  · rw [if_neg (by omega)]
    refine .inr ⟨g, _, rfl, Nat.lt_of_lt_of_le h.hg h.hm, fun j e hj t v hv => ?_⟩
    rw [List.getElem?_drop] at hj
    have := h.ev _ e hj t v hv
    rw [show o + (i + 1) * 5 + j * 5 + t = o + (i + 1 + j) * 5 + t by omega]
    exact this
  · exact .inl (List.drop_eq_nil_of_le (by omega))
theorem any_rest (p : Ev → Bool) (fn lb ib g o cp i : Nat) (l : List Ev) (x : Ev) (eg : ∀ args w, (callFunc fn args).run Tryd.prog w = .ok (.enter fn args) w)
    (hf : ∀ e W, smallE e → Cap W lb ib g o l.length cp i x → Calls Tryd.prog fn #[.agg (evV e), .pointer (some ⟨lb, 0, none⟩), .pointer (some ⟨ib, 0, none⟩)] W (Res (p e) W))
    (hn : l.length ≤ 30) (hcp : l.length ≤ cp) (SM : ∀ e ∈ l, smallE e) {w : World} {m : Nat} (h : Env w m lb g o cp l) (hI : w.cell? ⟨ib, 0, none⟩ = some (.int .i64 i)) (hib : ib < w.heap.size) (hx : l[i]? = some x) :
    Calls Tryd.prog 56 #[.slice (if cp = i + 1 then some ⟨g, o, none⟩ else some ⟨g, o + (i + 1) * 5, none⟩) (l.length - (i + 1)) (cp - (i + 1)), .func (.func fn) #[] #[.pointer (some ⟨lb, 0, none⟩), .pointer (some ⟨ib, 0, none⟩)]] w (Res ((l.drop (i + 1)).any p) w) := by
  have CP := h.cap hI hib hx
  have R := h.rest hcp i
  have SD : ∀ e ∈ l.drop (i + 1), smallE e := fun e he => SM e (List.mem_of_mem_drop he)
  have hm : ((l.drop (i + 1)).attachWith smallE SD).map Subtype.val = l.drop (i + 1) := List.attachWith_map_subtype_val ..
  have hlen : l.length - (i + 1) = ((l.drop (i + 1)).attachWith smallE SD).length := by simp
  have hany : (l.drop (i + 1)).any p = ((l.drop (i + 1)).attachWith smallE SD).any (fun e => p e.1) := by
    conv => lhs; rw [← hm]
    rw [List.any_map]; rfl
  rw [hany, hlen]
  refine anyE_any (α := {e : Ev // smallE e}) Subtype.val (fun e => p e.1) fn #[.pointer (some ⟨lb, 0, none⟩), .pointer (some ⟨ib, 0, none⟩)] eg _ _ _ w ?_ (by rw [← hlen]; omega) (by rw [hm]; exact R)
  intro W e hb
  exact (hf e.1 W e.2 (CP.of hb (Nat.le_refl _))).mono fun e w' ⟨h1, h2⟩ => ⟨h1, hb.trans ((ext_iff.1 h2).mono hb.size)⟩
/-- The third loop goes on. -/
theorem round_cont {w0 wy wr : World} {m8 i n ib : Nat} (hlt : i < n) (HI : Hid (wr.heap[ib]? = some (.cells #[.int .i64 i] 3 (0, 0)))) (hB : Below m8 w0 wy) (hm : m8 ≤ wy.heap.size) :
    (∃ i' ib' : Nat, i' ≤ n ∧ Value.pointer (some ⟨wy.heap.size, 0, none⟩) = .pointer (some ⟨ib', 0, none⟩) ∧ m8 ≤ ib' ∧ Hid ((wy.alloc (.cells #[.int .i64 ((i : Int) + 1)] 3)).heap[ib']? = some (.cells #[.int .i64 i'] 3 (0, 0))) ∧ Hid (Below m8 w0 (wy.alloc (.cells #[.int .i64 ((i : Int) + 1)] 3)))) ∧ n - rdI (.pointer (some ⟨wy.heap.size, 0, none⟩)) (wy.alloc (.cells #[.int .i64 ((i : Int) + 1)] 3)) < n - rdI (.pointer (some ⟨ib, 0, none⟩)) wr := by
  have h := heap_alloc_at wy (.cells #[.int .i64 ((i + 1 : Nat) : Int)] 3)
  refine ⟨⟨i + 1, _, hlt, rfl, hm, Lib.hid h, Lib.hid (hB.alloc hm _)⟩, ?_⟩
  rw [rdI_at HI.out]
  have := rdI_at h
  rw [show ((i : Int) + 1) = ((i + 1 : Nat) : Int) from rfl, this]
  omega
/-! slots 17 -/
/-- The frame of the second loop's region with the call of Get. -/
def frG (tb g2 m cap2 j : Nat) (x g : Nat → Value) : Act := { tmps := #[x 0, x 1, x 2, .pointer (some ⟨tb, 0, none⟩), x 4, .slice (some ⟨g2, 0, none⟩) m cap2, .int .i64 j, g 7, g 8, x 9, x 10, x 11, x 12, x 13, x 14, x 15, x 16, x 17, x 18, x 19, x 20, x 21, x 22, x 23, x 24, x 25, x 26, x 27, x 28, x 29, x 30, x 31, x 32, x 33, x 34, x 35, x 36, x 37, x 38, x 39, x 40, x 41, x 42, x 43, x 44, x 45, x 46, x 47, x 48, x 49, x 50, x 51, x 52, x 53, x 54, x 55, g 56, g 57, g 58, g 59, g 60, g 61, g 62, g 63, g 64, g 65, g 66, g 67, g 68, g 69, x 70, x 71, x 72, x 73, x 74, x 75, x 76, x 77, x 78, x 79, undef, undef, undef, undef, undef, undef, undef, undef, undef, undef, undef, undef, undef, undef, undef, undef, undef, undef, undef, undef, undef, undef, undef, undef, undef, undef, undef, undef, undef, undef, undef, undef, undef, undef, undef, undef, undef, undef, undef, undef, undef, undef, undef, undef, undef, undef, undef, undef, undef, undef, undef, undef, undef, undef, undef, undef, undef, undef, undef, undef, undef, undef, undef, undef, undef, undef, undef, undef, undef, undef, undef, undef, undef, undef, undef, undef, undef, undef], defers := [] }
def dstG (i : Nat) : Nat := ([57, 58, 59, 60, 61, 62, 63, 64, 65, 66, 67, 56, 68, 69, 7, 1015, 8] : List Nat).getD i (2000 + i)
/-- What each operation lays. -/
def laysG (g2 m cap2 j : Nat) (c1 c2 c3 c4 : ByteArray) (i : Nat) (v : Value) (_ : World) : Prop :=
  match i with
  | 0 => v = .slice (some ⟨g2, 0, none⟩) m cap2
  | 1 => v = .int .i64 j
  | 2 => v = .pointer (some ⟨g2, j * 4, none⟩)
  | 3 => v = .pointer (some ⟨g2, j * 4, none⟩)
  | 4 => v = .string c1
  | 5 => v = .slice (some ⟨g2, 0, none⟩) m cap2
  | 6 => v = .int .i64 j
  | 7 => v = .pointer (some ⟨g2, j * 4, none⟩)
  | 8 => v = .pointer (some ⟨g2, j * 4 + 1, none⟩)
  | 9 => v = .string c2
  | 10 => v = .tuple #[.agg #[.string c1, .string c2, .string c3, .string c4], .nilIface]
  | 11 => v = .tuple #[.agg #[.string c1, .string c2, .string c3, .string c4], .nilIface]
  | 12 => v = .agg #[.string c1, .string c2, .string c3, .string c4]
  | 13 => v = .nilIface
  | 16 => v = .nilIface
  | _ => True
/-- What stands in memory. -/
def stateG (w0 : World) (c : Cell) (L : Nat → Bool) (g : Nat → Value) (w : World) : Prop :=
  (∃ y, w = ext w0 y) ∧ (L 15 = true → L 14 = true) ∧ (L 14 = true → ∃ kb, g 7 = .pointer (some ⟨kb, 0, none⟩) ∧ w0.heap.size ≤ kb ∧ w.heap[kb]? = some (.cells (if L 15 = true then cellA c else #[.string ⟨#[]⟩, .string ⟨#[]⟩, .string ⟨#[]⟩, .string ⟨#[]⟩]) 81 (0, 0)))
theorem stateG_ext {w0 w w' : World} {c : Cell} {L L' : Nat → Bool} {g g' : Nat → Value} (h : stateG w0 c L g w) (hx : ∃ y, w' = ext w y) (h4 : L' 14 = L 14) (h5 : L' 15 = L 15) (h7 : g' 7 = g 7) : stateG w0 c L' g' w' := by
  obtain ⟨h1, h2, h3⟩ := h
  refine ⟨ext_trans h1 hx, by rw [h4, h5]; exact h2, fun hl => ?_⟩
  rw [h4] at hl
  obtain ⟨kb, k1, k2, k3⟩ := h3 hl
  exact ⟨kb, h7.trans k1, k2, by rw [h5]; exact ((ext_iff.1 hx).block _ (lt_of_heap k3)).trans k3⟩
/-! end of slots 17 -/
/-! slots -/
/-- The frame of the first loop's region. -/
def frT (lb tb k : Nat) (p0 p2 p11 p16 p17 p18 p20 p21 : Value) (g : Nat → Value) : Act := { tmps := #[p0, .pointer (some ⟨lb, 0, none⟩), p2, .pointer (some ⟨tb, 0, none⟩), .int .i64 k, undef, undef, undef, undef, undef, undef, p11, .bool true, .bool false, .bool true, .bool false, p16, p17, p18, .bool true, p20, p21, g 22, g 23, g 24, g 25, g 26, g 27, g 28, g 29, g 30, g 31, g 32, g 33, undef, undef, undef, undef, undef, undef, undef, undef, undef, undef, undef, undef, undef, undef, undef, undef, undef, undef, undef, undef, undef, undef, undef, undef, undef, undef, undef, undef, undef, undef, undef, undef, undef, undef, undef, undef, undef, undef, undef, undef, undef, undef, undef, undef, undef, undef, undef, undef, undef, undef, undef, undef, undef, undef, undef, undef, undef, undef, undef, undef, undef, undef, undef, undef, undef, undef, undef, undef, undef, undef, undef, undef, undef, undef, undef, undef, undef, undef, undef, undef, undef, undef, undef, undef, undef, undef, undef, undef, undef, undef, undef, undef, undef, undef, undef, undef, undef, undef, undef, undef, undef, undef, undef, undef, undef, undef, undef, undef, undef, undef, undef, undef, undef, undef, undef, undef, undef, undef, undef, undef, undef, undef, undef, undef], defers := [] }
def dstT (i : Nat) : Nat := 22 + i
/-- What each operation lays. -/
def laysT (g o n cp k : Nat) (x : Ev) (rv : Value) (b : Bool) (j : Nat) (v : Value) (_ : World) : Prop :=
  match j with
  | 0 => v = .slice (some ⟨g, o, none⟩) n cp
  | 1 => v = .int .i64 k
  | 2 => v = .pointer (some ⟨g, o + k * 5, none⟩)
  | 3 => v = .agg #[.int .i64 x.kind, .string x.subject, .string x.table, .string x.row, .string x.value]
  | 4 => v = rv
  | 5 => v = .bool b
  | 6 => v = .slice (some ⟨g, o, none⟩) n cp
  | 7 => v = .int .i64 k
  | 8 => v = .pointer (some ⟨g, o + k * 5, none⟩)
  | 9 => v = .agg #[.int .i64 x.kind, .string x.subject, .string x.table, .string x.row, .string x.value]
  | 10 => v = .bool b
  | 11 => v = .bool false
  | _ => True
/-- What stands in memory. -/
def stateTl (m : Nat) (w0 : World) (tb k : Nat) (T T' : List Cell) (L : Nat → Bool) (_ : Nat → Value) (w : World) : Prop :=
  if L 4 = true then tabIn m w0 w tb (k + 1) T' else tabIn m w0 w tb k T
theorem stateTl_below {m : Nat} {w0 w : World} {tb k : Nat} {T T' : List Cell} {L : Nat → Bool} {g : Nat → Value} (h : stateTl m w0 tb k T T' L g w) : Below m w0 w := by
  unfold stateTl at h
  split at h <;> exact h.below
theorem stateTl_ext {m : Nat} {w0 w w' : World} {tb k : Nat} {T T' : List Cell} {L : Nat → Bool} {g g' : Nat → Value} (h : stateTl m w0 tb k T T' L g w) (hx : ∃ x, w' = ext w x) : stateTl m w0 tb k T T' L g' w' := by
  unfold stateTl at h ⊢
  split at h <;> rename_i h4
  · rw [if_pos h4]; exact h.ext hx
  · rw [if_neg h4]; exact h.ext hx
/-! end of slots -/
set_option maxRecDepth 100000 in
set_option maxHeartbeats 4000000 in
theorem tlast_any (q : Option Addr) (cp : Nat) (l : List Ev) (w : World) (hl : l.length ≤ 9223372036854775807) (hcp : l.length ≤ cp) (he : evsAt w q l) :
    Calls Tryd.prog 10 #[.slice q l.length cp] w (Res true w) := by
  have FW := fun w h => few_any q cp l w hl h
  have FS := Lib.hid (few_small (l := l))
  generalize fewB l = few at FW FS
  have E1 := Lib.hid (evsAt_of he (fun k hk => heap_alloc_old w (.cells #[.slice q l.length cp] 71) hk) (by simp))
  have X1 := Lib.hid (ext_alloc (.cells #[.slice q l.length cp] 71) (ext_refl w))
  have L1 := Lib.hid (heap_alloc_at w (.cells #[.slice q l.length cp] 71))
  clear he hl
  go_enter Tryd.func10, Tryd.ntmps10
  go_wp2_with fail
  generalize w.alloc (.cells #[.slice q l.length cp] 71) = w1 at E1 X1 L1 ⊢
  refine (FW _ E1.out).mono ?_
  rintro _ w2 ⟨rfl, hx⟩
  have X2 := Lib.hid (ext_trans X1.out hx)
  have L2 := Lib.hid (((ext_iff.1 hx).block _ (lt_of_heap L1.out)).trans L1.out)
  have E2 := Lib.hid (evsAt_of E1.out (fun k hk => (ext_iff.1 hx).block k hk) (ext_iff.1 hx).size)
  clear hx E1 X1 L1 FW
  cases few with
  | false =>
    go_wp2_with fail
    go_ret
    exact ⟨rfl, X2.out⟩
  | true =>
    have SM := Lib.hid (FS.out rfl).2
    have hn := (FS.out rfl).1
    clear FS
    go_wp2_with fail
    refine (applied_any _).mono ?_
    rintro _ w3 ⟨rfl, hx⟩
    have X3 := Lib.hid (ext_trans X2.out hx)
    have L3 := Lib.hid (((ext_iff.1 hx).block _ (lt_of_heap L2.out)).trans L2.out)
    have E3 := Lib.hid (evsAt_of E2.out (fun k hk => (ext_iff.1 hx).block k hk) (ext_iff.1 hx).size)
    clear hx E2 X2 L2
    go_wp2_with fail
    have T4 := Lib.hid (tabIn.made (Below.refl w3.heap.size w3) (Nat.le_refl _))
    have ENV : Hid (l ≠ [] → ∃ g o, q = some ⟨g, o, none⟩ ∧ Env w3 w3.heap.size w.heap.size g o cp l) := Lib.hid (fun hne => by
      rcases E3.out with h | ⟨g, o, rfl, hg, hc⟩
      · exact absurd h hne
      · exact ⟨g, o, rfl, lt_of_heap L3.out, hg, Nat.le_refl _, by rw [cell_in, L3.out]; rfl, hc⟩)
    have hlb := lt_of_heap L3.out
    have CL : Hid (w3.cell? ⟨w.heap.size, 0, none⟩ = some (.slice q l.length cp)) := Lib.hid (by rw [cell_in, L3.out]; rfl)
    clear E3 L3
    generalize w3.alloc (.cells #[.map none] 75) = w4 at T4 ⊢
    generalize htb : w3.heap.size = tb at T4 ENV hlb ⊢
    generalize hlb' : w.heap.size = lb at ENV CL hlb ⊢
    go_loopw [4] (fun iv wr => ∃ k : Nat, k ≤ l.length ∧ iv = .int .i64 k ∧ Hid (tabIn tb w3 wr tb k (foldT okV (l.take k) []))) (fun iv _ => l.length - (intOf iv).toNat)
    case atStart => exact ⟨0, Nat.zero_le _, rfl, T4⟩
    case round =>
      clear T4 w4
      obtain ⟨k, hk, rfl, TK⟩ := hrel
      have clr := cell_below TK.out.below hlb CL.out
      by_cases hlt : k < l.length
      · obtain ⟨g, o, rfl, EN⟩ := ENV.out (by intro e; rw [e] at hlt; cases hlt)
        have hx := List.getElem?_eq_getElem hlt
        have hsx := SM.out _ (List.getElem_mem hlt)
        have TT := Lib.hid (show foldT okV (l.take (k + 1)) [] = applyT okV l[k] (foldT okV (l.take k) []) from by
          rw [List.take_add_one, foldT_append, hx]; rfl)
        generalize l[k] = x at hx hsx TT
        generalize foldT okV (l.take k) [] = T at TK TT
        generalize hT' : foldT okV (l.take (k + 1)) [] = T' at TT
        have hlt' : (k : Int) < l.length := by omega
        go_wp2_with fail
        -- BODY9
        have AP := fun w1 h => apply_in x (m := tb) (w0 := w3) (w := w1) (tb := tb) (n := k) (T := T) h (by omega) hsx
        have RT := fun w => right_any x w hsx
        have heq : ∀ w, (binOp .eql 27 (if rightE okV x = true then Value.nilIface else errV 1) .nilIface).run Tryd.prog w = .ok (.bool (rightE okV x)) w := fun w => by
          cases rightE okV x <;> kernel_rfl
        have hgd : ∀ w, (eqGuard .eql 27 (.tmp 26) (.const .nilIface) (if rightE okV x = true then Value.nilIface else errV 1) .nilIface).run Tryd.prog w = .ok () w := fun w => by
          cases rightE okV x <;> kernel_rfl
        rw [← TT.out] at AP
        generalize (if rightE okV x = true then Value.nilIface else errV 1) = rv at AP heq hgd
        generalize rightE okV x = b at RT heq
        unfold evV at AP RT
        have EN := EN
        refine wp_region_slots (frT lb tb k (.slice (some ⟨g, o, none⟩) l.length cp) u2 (.slice (some ⟨g, o, none⟩) l.length cp) (.int .i64 k) (.slice (some ⟨g, o, none⟩) l.length cp) (.int .i64 l.length) u20 u21) dstT (fun i => (#[u22, u23, u24, u25, u26, u27, u28, u29, u30, u31, u32, u33] : Array Value).getD (i - 22) undef) (laysT g o l.length cp k x rv b) (stateTl tb w3 tb k T T') (fun _ _ => True) (by kernel_rfl) (by kernel_rfl) rfl (fun j v _ _ _ h => h) (by kernel_rfl) ?_ ?_ ?_
        · unfold stateTl
          rw [if_neg (by simp)]
          exact TK.out.ext ⟨⟨#[], wr.drawn + 1⟩, by simp [ext]⟩
        · clear TK clr
          refine ⟨?_, ?_, ?_, ?_, ?_, ?_, ?_, ?_, ?_, ?_, ?_, ?_, trivial⟩
          all_goals (intro L g1 w5 hLi hdeps hR hC; refine ends_of fun Q hQ => ?_)
          · have cl := (EN.at (stateTl_below hC)).cl
            unfold frT
            go_wp2_with fail
            exact hQ.out _ _ ⟨.slice (some ⟨g, o, none⟩) l.length cp, rfl, trivial, rfl, hC⟩
          · unfold frT
            go_wp2_with fail
            exact hQ.out _ _ ⟨.int .i64 k, rfl, trivial, rfl, hC⟩
          · have r0 : g1 22 = .slice (some ⟨g, o, none⟩) l.length cp := hR 0 (hdeps ⟨0, .data⟩ (by simp) rfl)
            have r1 : g1 23 = .int .i64 k := hR 1 (hdeps ⟨1, .data⟩ (by simp) rfl)
            unfold frT
            go_wp2_with fail
            exact hQ.out _ _ ⟨.pointer (some ⟨g, o + k * 5, none⟩), by rw [← upd1_id r0, ← upd1_id r1]; rfl, trivial, rfl, hC⟩
          · have r2 : g1 24 = .pointer (some ⟨g, o + k * 5, none⟩) := hR 2 (hdeps ⟨2, .data⟩ (by simp) rfl)
            obtain ⟨e0, e1, e2, e3, e4⟩ := (EN.at (stateTl_below hC)).cells hx
            unfold frT
            go_wp2_with fail
            exact hQ.out _ _ ⟨.agg #[.int .i64 x.kind, .string x.subject, .string x.table, .string x.row, .string x.value], by rw [← upd1_id r2]; rfl, trivial, rfl, hC⟩
          · have r3 : g1 25 = .agg #[.int .i64 x.kind, .string x.subject, .string x.table, .string x.row, .string x.value] := hR 3 (hdeps ⟨3, .data⟩ (by simp) rfl)
            have hC4 : tabIn tb w3 w5 tb k T := by unfold stateTl at hC; rw [if_neg (by simp [hLi])] at hC; exact hC
            unfold frT
            go_wp2_with fail
            refine (AP _ hC4).mono ?_
            rintro _ w6 ⟨rfl, hT⟩
            go_wp2_with fail
            exact hQ.out _ _ ⟨rv, by rw [← upd1_id r3]; rfl, trivial, rfl, by unfold stateTl; rw [if_pos (by simp)]; exact hT⟩
          · have r4 : g1 26 = rv := hR 4 (hdeps ⟨4, .data⟩ (by simp) rfl)
            unfold frT
            go_wp2_with fail
            exact hQ.out _ _ ⟨.bool b, by rw [← upd1_id r4]; rfl, trivial, rfl, hC⟩
          · have cl := (EN.at (stateTl_below hC)).cl
            unfold frT
            go_wp2_with fail
            exact hQ.out _ _ ⟨.slice (some ⟨g, o, none⟩) l.length cp, rfl, trivial, rfl, hC⟩
          · unfold frT
            go_wp2_with fail
            exact hQ.out _ _ ⟨.int .i64 k, rfl, trivial, rfl, hC⟩
          · have r6 : g1 28 = .slice (some ⟨g, o, none⟩) l.length cp := hR 6 (hdeps ⟨6, .data⟩ (by simp) rfl)
            have r7 : g1 29 = .int .i64 k := hR 7 (hdeps ⟨7, .data⟩ (by simp) rfl)
            unfold frT
            go_wp2_with fail
            exact hQ.out _ _ ⟨.pointer (some ⟨g, o + k * 5, none⟩), by rw [← upd1_id r6, ← upd1_id r7]; rfl, trivial, rfl, hC⟩
          · have r8 : g1 30 = .pointer (some ⟨g, o + k * 5, none⟩) := hR 8 (hdeps ⟨8, .data⟩ (by simp) rfl)
            obtain ⟨e0, e1, e2, e3, e4⟩ := (EN.at (stateTl_below hC)).cells hx
            unfold frT
            go_wp2_with fail
            exact hQ.out _ _ ⟨.agg #[.int .i64 x.kind, .string x.subject, .string x.table, .string x.row, .string x.value], by rw [← upd1_id r8]; rfl, trivial, rfl, hC⟩
          · have r9 : g1 31 = .agg #[.int .i64 x.kind, .string x.subject, .string x.table, .string x.row, .string x.value] := hR 9 (hdeps ⟨9, .data⟩ (by simp) rfl)
            unfold frT
            go_wp2_with fail
            refine (RT _).mono ?_
            rintro _ w6 ⟨rfl, hxx⟩
            go_wp2_with fail
            exact hQ.out _ _ ⟨.bool b, by rw [← upd1_id r9]; rfl, trivial, rfl, stateTl_ext (g := g1) hC hxx⟩
          · have r5 : g1 27 = .bool b := hR 5 (hdeps ⟨5, .data⟩ (by simp) rfl)
            have r10 : g1 32 = .bool b := hR 10 (hdeps ⟨10, .data⟩ (by simp) rfl)
            cases b
            all_goals
              unfold frT
              go_wp2_with fail
              exact hQ.out _ _ ⟨.bool false, by rw [← upd1_id r5, ← upd1_id r10]; rfl, trivial, rfl, hC⟩
        · intro L g1 w5 hL hR hC
          have h33 : g1 33 = .bool false := hR 11 (by simp)
          unfold stateTl at hC
          rw [if_pos (hL 4 (by simp))] at hC
          have hC := Lib.hid hC
          clear hR hL AP RT heq hgd
          unfold frT
          rw [h33]
          go_wp2_with fail
          go_roundw
          case rel => exact ⟨k + 1, by omega, by go_num, Lib.hid (by rw [hT']; exact hC.out)⟩
          case measure => simp [intOf]; omega
        -- END9
      · obtain rfl : k = l.length := by omega
        rw [List.take_length] at TK
        go_wp2_with fail
        have TF := Lib.hid TK.out.small
        have TL := TK.out.len_le
        refine (cells_in TK.out (by omega)).mono ?_
        rintro _ w6 ⟨v, cs, rfl, hp, hA, hO, -, hB⟩
        obtain ⟨q2, cap2, rfl⟩ := ownsCl_shape hO
        have CI := Lib.hid (cellsIn_of hO).1
        have T6 := Lib.hid (TK.out.ext (ext_of hB))
        have hcs : cs.length ≤ 30 := by have := hp.length_eq; omega
        clear TL
        have clq := Lib.hid (cell_below T6.out.below hlb CL.out)
        have hO := Lib.hid hO
        have hA := Lib.hid hA
        have hp := Lib.hid hp
        clear hB TK clr
        go_wp2_with fail
        go_loopw [6] (fun iv wr => ∃ j : Nat, j ≤ cs.length ∧ iv = .int .i64 j ∧ Hid (∃ x, wr = ext w6 x)) (fun iv _ => cs.length - (intOf iv).toNat)
        case atStart => exact ⟨0, Nat.zero_le _, rfl, Lib.hid (ext_refl _)⟩
        case round =>
          obtain ⟨j, hj, rfl, XJ⟩ := hrel
          by_cases hlt2 : j < cs.length
          · obtain ⟨g2, rfl, hg2, CC⟩ := cellsIn_cells (cellsIn_at CI.out (ext_iff.1 XJ.out)) hlt2
            have TW := Lib.hid (T6.out.ext XJ.out)
            have hlt2' : (j : Int) < cs.length := by omega
            obtain ⟨f0, f1, f2, f3⟩ := CC j hlt2
            have hmem : cs[j]! ∈ foldT okV l [] := hp.out.mem_iff.1 (by rw [getElem!_pos cs j hlt2]; exact List.getElem_mem hlt2)
            have hsc := TF.out _ hmem
            have AG := Lib.hid (show answG (ck cs[j]!) (foldT okV l []) = .tuple #[.agg (cellA cs[j]!), .nilIface] from by
              unfold answG; rw [find_some T6.out.once hmem]; rfl)
            have AS := Lib.hid (fun (h0 : 0 < j) => show ccmp cs[j - 1]! cs[j]! < 0 from by
              have h1 : j - 1 < cs.length := by omega
              have := List.pairwise_iff_getElem.1 hA.out (j - 1) j h1 hlt2 (by omega)
              rw [getElem!_pos cs (j - 1) h1, getElem!_pos cs j hlt2]
              exact kcmp_neg.2 this)
            have CP := Lib.hid (fun (h0 : 0 < j) => CC (j - 1) (by omega))
            have TC := fun w => tcompare_any cs[j - 1]! cs[j]! w
            have GT := fun w1 h => get_in cs[j]!.table cs[j]!.row (m := tb) (w0 := w3) (w := w1) (tb := tb) (n := l.length) (T := foldT okV l []) h hsc.1 hsc.2
            rw [show (txt cs[j]!.table, txt cs[j]!.row) = ck cs[j]! from rfl, AG.out] at GT
            clear AG
            clear CC
            generalize hcj : cs[j]! = c at *
            generalize hcj1 : cs[j - 1]! = c' at *
            have hcj1 := Lib.hid hcj1
            obtain ⟨c1, c2, c3, c4⟩ := c
            obtain ⟨d1, d2, d3, d4⟩ := c'
            unfold cellA at TC GT
            dsimp only at TC GT f0 f1 f2 f3
            go_wp2_with fail
            by_cases j0 : j = 0
            · have jp : ¬ (0 : Int) < j := by omega
              have jpN : ¬ 0 < j := by omega
              clear j0
              refine wp_region_ext (by kernel_rfl) (by kernel_rfl) ?_
              repeat (go_big_quiet_step (fail))
              refine wpQuiet_nil ?_
              rintro _ ⟨y, rfl⟩
              have XA := Lib.hid (ext_trans XJ.out ⟨y, rfl⟩)
              have TA := Lib.hid (TW.out.ext ⟨y, rfl⟩)
              have CIa := Lib.hid (cellsIn_at CI.out (ext_iff.1 XA.out))
              generalize ext wr y = wa at XA TA CIa ⊢
              obtain ⟨g3, hq3, hg3, CCa⟩ := cellsIn_cells CIa.out hlt2
              have hgg : g2 = g3 := by injection hq3 with h; injection h with h
              subst hgg
              obtain ⟨a0, a1, a2, a3⟩ := CCa _ hlt2
              have CCa := Lib.hid CCa
              rw [hcj] at a0 a1 a2 a3
              dsimp only at a0 a1 a2 a3
              go_wp2_with fail
              refine wp_region_slots (frG tb g2 cs.length cap2 j (fun k => (#[.slice q l.length cp, .pointer (some ⟨lb, 0, none⟩), u2, .pointer (some ⟨tb, 0, none⟩), .int .i64 l.length, .slice (some ⟨g2, 0, none⟩) cs.length cap2, .int .i64 j, u7, u8, undef, undef, .slice q l.length cp, .bool true, .bool false, .bool true, .bool false, .int .i64 l.length, .slice q l.length cp, .int .i64 l.length, .bool false, u20, u21, u22, u23, u24, u25, u26, u27, u28, u29, u30, u31, u32, u33, .slice (some ⟨g2, 0, none⟩) cs.length cap2, .int .i64 j, .slice (some ⟨g2, 0, none⟩) cs.length cap2, .int .i64 cs.length, .bool true, u39, u40, .int .i64 j, .bool false, .bool false, undef, undef, undef, undef, undef, undef, undef, undef, undef, undef, undef, .bool false, u56, u57, u58, u59, u60, u61, u62, u63, u64, u65, u66, u67, u68, u69, u70, u71, u72, u73, u74, u75, u76, u77, u78, u79] : Array Value).getD k undef)) dstG (fun k => (#[.slice q l.length cp, .pointer (some ⟨lb, 0, none⟩), u2, .pointer (some ⟨tb, 0, none⟩), .int .i64 l.length, .slice (some ⟨g2, 0, none⟩) cs.length cap2, .int .i64 j, u7, u8, undef, undef, .slice q l.length cp, .bool true, .bool false, .bool true, .bool false, .int .i64 l.length, .slice q l.length cp, .int .i64 l.length, .bool false, u20, u21, u22, u23, u24, u25, u26, u27, u28, u29, u30, u31, u32, u33, .slice (some ⟨g2, 0, none⟩) cs.length cap2, .int .i64 j, .slice (some ⟨g2, 0, none⟩) cs.length cap2, .int .i64 cs.length, .bool true, u39, u40, .int .i64 j, .bool false, .bool false, undef, undef, undef, undef, undef, undef, undef, undef, undef, undef, undef, .bool false, u56, u57, u58, u59, u60, u61, u62, u63, u64, u65, u66, u67, u68, u69, u70, u71, u72, u73, u74, u75, u76, u77, u78, u79] : Array Value).getD k undef) (laysG g2 cs.length cap2 j c1 c2 c3 c4) (stateG w6 ⟨c1, c2, c3, c4⟩) (fun _ _ => True) (by kernel_rfl) (by kernel_rfl) rfl (fun j v _ _ _ h => h) (by kernel_rfl) ?_ ?_ ?_
              · exact ⟨ext_trans XA.out ⟨⟨#[], wa.drawn + 1⟩, by simp [ext]⟩, (fun h => by cases h), fun h => by cases h⟩
              · clear XA TA CIa CCa a0 a1 a2 a3 hg3 hq3
                refine ⟨?_, ?_, ?_, ?_, ?_, ?_, ?_, ?_, ?_, ?_, ?_, ?_, ?_, ?_, ?_, ?_, ?_, trivial⟩
                all_goals (intro L g1 w8 hLi hdeps hR hC; refine ends_of fun Q hQ => ?_)
                · unfold frG
                  go_wp2_with fail
                  exact hQ.out _ _ ⟨.slice (some ⟨g2, 0, none⟩) cs.length cap2, rfl, trivial, rfl, stateG_ext hC (ext_refl _) rfl rfl rfl⟩
                · unfold frG
                  go_wp2_with fail
                  exact hQ.out _ _ ⟨.int .i64 j, rfl, trivial, rfl, stateG_ext hC (ext_refl _) rfl rfl rfl⟩
                · have r0 : g1 57 = .slice (some ⟨g2, 0, none⟩) cs.length cap2 := hR 0 (hdeps ⟨0, .data⟩ (by simp) rfl)
                  have r1 : g1 58 = .int .i64 j := hR 1 (hdeps ⟨1, .data⟩ (by simp) rfl)
                  unfold frG
                  go_wp2_with fail
                  exact hQ.out _ _ ⟨.pointer (some ⟨g2, j * 4, none⟩), by rw [← upd1_id r0, ← upd1_id r1]; rfl, trivial, rfl, stateG_ext hC (ext_refl _) rfl rfl rfl⟩
                · have r2 : g1 59 = .pointer (some ⟨g2, j * 4, none⟩) := hR 2 (hdeps ⟨2, .data⟩ (by simp) rfl)
                  unfold frG
                  go_wp2_with fail
                  exact hQ.out _ _ ⟨.pointer (some ⟨g2, j * 4, none⟩), by rw [← upd1_id r2]; rfl, trivial, rfl, stateG_ext hC (ext_refl _) rfl rfl rfl⟩
                · have r3 : g1 60 = .pointer (some ⟨g2, j * 4, none⟩) := hR 3 (hdeps ⟨3, .data⟩ (by simp) rfl)
                  obtain ⟨g3, hq3, hg3, CCa⟩ := cellsIn_cells (cellsIn_at CI.out (ext_iff.1 hC.1)) hlt2
                  have hgg : g2 = g3 := by injection hq3 with h; injection h with h
                  subst hgg
                  obtain ⟨a0, a1, a2, a3⟩ := CCa _ hlt2
                  rw [hcj] at a0 a1 a2 a3
                  dsimp only at a0 a1 a2 a3
                  clear CCa hq3
                  unfold frG
                  go_wp2_with fail
                  exact hQ.out _ _ ⟨.string c1, by rw [← upd1_id r3]; rfl, trivial, rfl, stateG_ext hC (ext_refl _) rfl rfl rfl⟩
                · unfold frG
                  go_wp2_with fail
                  exact hQ.out _ _ ⟨.slice (some ⟨g2, 0, none⟩) cs.length cap2, rfl, trivial, rfl, stateG_ext hC (ext_refl _) rfl rfl rfl⟩
                · unfold frG
                  go_wp2_with fail
                  exact hQ.out _ _ ⟨.int .i64 j, rfl, trivial, rfl, stateG_ext hC (ext_refl _) rfl rfl rfl⟩
                · have r5 : g1 62 = .slice (some ⟨g2, 0, none⟩) cs.length cap2 := hR 5 (hdeps ⟨5, .data⟩ (by simp) rfl)
                  have r6 : g1 63 = .int .i64 j := hR 6 (hdeps ⟨6, .data⟩ (by simp) rfl)
                  unfold frG
                  go_wp2_with fail
                  exact hQ.out _ _ ⟨.pointer (some ⟨g2, j * 4, none⟩), by rw [← upd1_id r5, ← upd1_id r6]; rfl, trivial, rfl, stateG_ext hC (ext_refl _) rfl rfl rfl⟩
                · have r7 : g1 64 = .pointer (some ⟨g2, j * 4, none⟩) := hR 7 (hdeps ⟨7, .data⟩ (by simp) rfl)
                  unfold frG
                  go_wp2_with fail
                  exact hQ.out _ _ ⟨.pointer (some ⟨g2, j * 4 + 1, none⟩), by rw [← upd1_id r7]; rfl, trivial, rfl, stateG_ext hC (ext_refl _) rfl rfl rfl⟩
                · have r8 : g1 65 = .pointer (some ⟨g2, j * 4 + 1, none⟩) := hR 8 (hdeps ⟨8, .data⟩ (by simp) rfl)
                  obtain ⟨g3, hq3, hg3, CCa⟩ := cellsIn_cells (cellsIn_at CI.out (ext_iff.1 hC.1)) hlt2
                  have hgg : g2 = g3 := by injection hq3 with h; injection h with h
                  subst hgg
                  obtain ⟨a0, a1, a2, a3⟩ := CCa _ hlt2
                  rw [hcj] at a0 a1 a2 a3
                  dsimp only at a0 a1 a2 a3
                  clear CCa hq3
                  unfold frG
                  go_wp2_with fail
                  exact hQ.out _ _ ⟨.string c2, by rw [← upd1_id r8]; rfl, trivial, rfl, stateG_ext hC (ext_refl _) rfl rfl rfl⟩
                · have r4 : g1 61 = .string c1 := hR 4 (hdeps ⟨4, .data⟩ (by simp) rfl)
                  have r9 : g1 66 = .string c2 := hR 9 (hdeps ⟨9, .data⟩ (by simp) rfl)
                  unfold frG
                  go_wp2_with fail
                  refine (GT _ (T6.out.ext hC.1)).mono ?_
                  rintro _ w9 ⟨rfl, hx⟩
                  go_wp2_with fail
                  exact hQ.out _ _ ⟨.tuple #[.agg #[.string c1, .string c2, .string c3, .string c4], .nilIface], by rw [← upd1_id r4, ← upd1_id r9]; rfl, trivial, rfl, stateG_ext hC hx rfl rfl rfl⟩
                · have r10 : g1 67 = .tuple #[.agg #[.string c1, .string c2, .string c3, .string c4], .nilIface] := hR 10 (hdeps ⟨10, .data⟩ (by simp) rfl)
                  unfold frG
                  go_wp2_with fail
                  exact hQ.out _ _ ⟨.tuple #[.agg #[.string c1, .string c2, .string c3, .string c4], .nilIface], by rw [← upd1_id r10]; rfl, trivial, rfl, stateG_ext hC (ext_refl _) rfl rfl rfl⟩
                · have r11 : g1 56 = .tuple #[.agg #[.string c1, .string c2, .string c3, .string c4], .nilIface] := hR 11 (hdeps ⟨11, .data⟩ (by simp) rfl)
                  unfold frG
                  go_wp2_with fail
                  exact hQ.out _ _ ⟨.agg #[.string c1, .string c2, .string c3, .string c4], by rw [← upd1_id r11]; rfl, trivial, rfl, stateG_ext hC (ext_refl _) rfl rfl rfl⟩
                · have r11 : g1 56 = .tuple #[.agg #[.string c1, .string c2, .string c3, .string c4], .nilIface] := hR 11 (hdeps ⟨11, .data⟩ (by simp) rfl)
                  unfold frG
                  go_wp2_with fail
                  exact hQ.out _ _ ⟨.nilIface, by rw [← upd1_id r11]; rfl, trivial, rfl, stateG_ext hC (ext_refl _) rfl rfl rfl⟩
                · unfold frG
                  go_wp2_with fail
                  exact hQ.out _ _ ⟨.pointer (some ⟨w8.heap.size, 0, none⟩), rfl, trivial, trivial, ext_alloc _ hC.1, fun _ => rfl, fun _ => ⟨w8.heap.size, rfl, (ext_iff.1 hC.1).size, by show _ = some (Obj.cells (if L 15 = true then _ else _) _ _); rw [if_neg (fun h => by have := hC.2.1 h; rw [hLi] at this; cases this)]; exact heap_alloc_at w8 _⟩⟩
                · have r12 : g1 68 = .agg #[.string c1, .string c2, .string c3, .string c4] := hR 12 (hdeps ⟨12, .data⟩ (by simp) rfl)
                  have l14 : L 14 = true := hdeps ⟨14, .data⟩ (by simp) rfl
                  obtain ⟨kb, r14, hkb, hcb⟩ := hC.2.2 l14
                  rw [if_neg (by simp [hLi])] at hcb
                  have hcb := Lib.hid hcb
                  obtain ⟨z0, z1, z2, z3⟩ := cell_cells (c := zeroC) hcb.out
                  have fz := free_of_heap hcb.out
                  unfold zeroC at z0 z1 z2 z3
                  dsimp only at z0 z1 z2 z3
                  unfold frG
                  go_wp2_with fail
                  obtain ⟨S4, U4⟩ := set4c (by rfl) hcb.out ⟨c1, c2, c3, c4⟩
                  exact hQ.out _ _ ⟨undef, by rw [← upd1_id r12, ← upd1_id r14]; rfl, trivial, trivial, ext_of ((ext_iff.1 hC.1).grown U4 (ext_iff.1 hC.1).size (by rintro _ ⟨⟩; exact hkb)), fun _ => l14, fun _ => ⟨kb, r14, hkb, S4⟩⟩
                · have r13 : g1 69 = .nilIface := hR 13 (hdeps ⟨13, .data⟩ (by simp) rfl)
                  unfold frG
                  go_wp2_with fail
                  exact hQ.out _ _ ⟨.nilIface, by rw [← upd1_id r13]; rfl, trivial, rfl, stateG_ext hC (ext_refl _) rfl rfl rfl⟩
              intro L g1 wc hL hR hC
              obtain ⟨XC, -, h7⟩ := hC
              obtain ⟨kb, r7, hkb, hcb⟩ := h7 (hL 14 (by simp))
              rw [if_pos (hL 15 (by simp))] at hcb
              have r8 : g1 8 = .nilIface := hR 16 (by simp)
              have XC := Lib.hid XC
              have HC := Lib.hid hcb
              clear hL hR h7 hcb XA TA CIa CCa a0 a1 a2 a3 hg3 hq3
              unfold frG
              rw [r7, r8]
              go_wp2_with fail
              have CIc := cellsIn_at CI.out (ext_iff.1 XC.out)
              obtain ⟨g3, hq3, hg3, CCa⟩ := cellsIn_cells CIc hlt2
              have hgg : g2 = g3 := by injection hq3 with h; injection h with h
              subst hgg
              obtain ⟨a0, a1, a2, a3⟩ := CCa _ hlt2
              rw [hcj] at a0 a1 a2 a3
              dsimp only at a0 a1 a2 a3
              obtain ⟨k0, k1, k2, k3⟩ := cell_cells (c := ⟨c1, c2, c3, c4⟩) HC.out
              have lk := lt_of_heap HC.out
              dsimp only at k0 k1 k2 k3
              clear CCa CIc
              refine wp_region_ext (by kernel_rfl) (by kernel_rfl) ?_
              repeat (go_big_quiet_step (fail))
              refine wpQuiet_nil ?_
              rintro _ ⟨y3, rfl⟩
              have XD := Lib.hid (ext_trans XC.out ⟨y3, rfl⟩)
              generalize ext wc y3 = wd at XD ⊢
              clear a0 a1 a2 a3 k0 k1 k2 k3 lk HC XC
              go_wp2_with fail
              go_roundw
              case rel => first | exact ⟨j + 1, by omega, (by first | go_num | rfl), XD⟩ | exact ⟨j + 1, by omega, by first | go_num | rfl⟩
              case measure => simp [intOf]; omega

            · have jp : (0 : Int) < j := by omega
              have jpN : 0 < j := by omega
              have jr := Lib.hid (AS.out (by omega))
              generalize ccmp ⟨d1, d2, d3, d4⟩ ⟨c1, c2, c3, c4⟩ = r at TC jr
              have jn : ¬ (0 : Int) ≤ r := by have := jr.out; omega
              obtain ⟨e0, e1, e2, e3⟩ := CP.out (by omega)
              try dsimp only at e0 e1 e2 e3
              have hwj : wrap64 ((j : Int) - 1) = ((j - 1 : Nat) : Int) := by unfold wrap64; omega
              have hj1 : ((j - 1 : Nat) : Int) < cs.length := by omega
              have hj1n : j - 1 < cs.length := by omega
              refine wp_region_ext (by kernel_rfl) (by kernel_rfl) ?_
              repeat (go_big_quiet_step ((go_at_call 54; refine (TC _).mono ?_; rintro _ _ ⟨rfl, hx⟩; exact ⟨rfl, ext_trans ⟨_, rfl⟩ hx⟩)))
              refine wpQuiet_nil ?_
              rintro _ ⟨y, rfl⟩
              have XA := Lib.hid (ext_trans XJ.out ⟨y, rfl⟩)
              have TA := Lib.hid (TW.out.ext ⟨y, rfl⟩)
              have CIa := Lib.hid (cellsIn_at CI.out (ext_iff.1 XA.out))
              generalize ext wr y = wa at XA TA CIa ⊢
              obtain ⟨g3, hq3, hg3, CCa⟩ := cellsIn_cells CIa.out hlt2
              have hgg : g2 = g3 := by injection hq3 with h; injection h with h
              subst hgg
              obtain ⟨a0, a1, a2, a3⟩ := CCa _ hlt2
              have CCa := Lib.hid CCa
              rw [hcj] at a0 a1 a2 a3
              dsimp only at a0 a1 a2 a3
              go_wp2_with fail
              refine wp_region_slots (frG tb g2 cs.length cap2 j (fun k => (#[.slice q l.length cp, .pointer (some ⟨lb, 0, none⟩), u2, .pointer (some ⟨tb, 0, none⟩), .int .i64 l.length, .slice (some ⟨g2, 0, none⟩) cs.length cap2, .int .i64 j, u7, u8, undef, undef, .slice q l.length cp, .bool true, .bool false, .bool true, .bool false, .int .i64 l.length, .slice q l.length cp, .int .i64 l.length, .bool false, u20, u21, u22, u23, u24, u25, u26, u27, u28, u29, u30, u31, u32, u33, .slice (some ⟨g2, 0, none⟩) cs.length cap2, .int .i64 j, .slice (some ⟨g2, 0, none⟩) cs.length cap2, .int .i64 cs.length, .bool true, u39, u40, .int .i64 j, .bool true, .bool true, .slice (some ⟨g2, 0, none⟩) cs.length cap2, .int .i64 j, .int .i64 (j - 1), .pointer (some ⟨g2, (j - 1) * 4, none⟩), .agg #[.string d1, .string d2, .string d3, .string d4], .slice (some ⟨g2, 0, none⟩) cs.length cap2, .int .i64 j, .pointer (some ⟨g2, j * 4, none⟩), .agg #[.string c1, .string c2, .string c3, .string c4], .int .i64 r, .bool false, .bool false, u56, u57, u58, u59, u60, u61, u62, u63, u64, u65, u66, u67, u68, u69, u70, u71, u72, u73, u74, u75, u76, u77, u78, u79] : Array Value).getD k undef)) dstG (fun k => (#[.slice q l.length cp, .pointer (some ⟨lb, 0, none⟩), u2, .pointer (some ⟨tb, 0, none⟩), .int .i64 l.length, .slice (some ⟨g2, 0, none⟩) cs.length cap2, .int .i64 j, u7, u8, undef, undef, .slice q l.length cp, .bool true, .bool false, .bool true, .bool false, .int .i64 l.length, .slice q l.length cp, .int .i64 l.length, .bool false, u20, u21, u22, u23, u24, u25, u26, u27, u28, u29, u30, u31, u32, u33, .slice (some ⟨g2, 0, none⟩) cs.length cap2, .int .i64 j, .slice (some ⟨g2, 0, none⟩) cs.length cap2, .int .i64 cs.length, .bool true, u39, u40, .int .i64 j, .bool true, .bool true, .slice (some ⟨g2, 0, none⟩) cs.length cap2, .int .i64 j, .int .i64 (j - 1), .pointer (some ⟨g2, (j - 1) * 4, none⟩), .agg #[.string d1, .string d2, .string d3, .string d4], .slice (some ⟨g2, 0, none⟩) cs.length cap2, .int .i64 j, .pointer (some ⟨g2, j * 4, none⟩), .agg #[.string c1, .string c2, .string c3, .string c4], .int .i64 r, .bool false, .bool false, u56, u57, u58, u59, u60, u61, u62, u63, u64, u65, u66, u67, u68, u69, u70, u71, u72, u73, u74, u75, u76, u77, u78, u79] : Array Value).getD k undef) (laysG g2 cs.length cap2 j c1 c2 c3 c4) (stateG w6 ⟨c1, c2, c3, c4⟩) (fun _ _ => True) (by kernel_rfl) (by kernel_rfl) rfl (fun j v _ _ _ h => h) (by kernel_rfl) ?_ ?_ ?_
              · exact ⟨ext_trans XA.out ⟨⟨#[], wa.drawn + 1⟩, by simp [ext]⟩, (fun h => by cases h), fun h => by cases h⟩
              · clear XA TA CIa CCa a0 a1 a2 a3 hg3 hq3
                refine ⟨?_, ?_, ?_, ?_, ?_, ?_, ?_, ?_, ?_, ?_, ?_, ?_, ?_, ?_, ?_, ?_, ?_, trivial⟩
                all_goals (intro L g1 w8 hLi hdeps hR hC; refine ends_of fun Q hQ => ?_)
                · unfold frG
                  go_wp2_with fail
                  exact hQ.out _ _ ⟨.slice (some ⟨g2, 0, none⟩) cs.length cap2, rfl, trivial, rfl, stateG_ext hC (ext_refl _) rfl rfl rfl⟩
                · unfold frG
                  go_wp2_with fail
                  exact hQ.out _ _ ⟨.int .i64 j, rfl, trivial, rfl, stateG_ext hC (ext_refl _) rfl rfl rfl⟩
                · have r0 : g1 57 = .slice (some ⟨g2, 0, none⟩) cs.length cap2 := hR 0 (hdeps ⟨0, .data⟩ (by simp) rfl)
                  have r1 : g1 58 = .int .i64 j := hR 1 (hdeps ⟨1, .data⟩ (by simp) rfl)
                  unfold frG
                  go_wp2_with fail
                  exact hQ.out _ _ ⟨.pointer (some ⟨g2, j * 4, none⟩), by rw [← upd1_id r0, ← upd1_id r1]; rfl, trivial, rfl, stateG_ext hC (ext_refl _) rfl rfl rfl⟩
                · have r2 : g1 59 = .pointer (some ⟨g2, j * 4, none⟩) := hR 2 (hdeps ⟨2, .data⟩ (by simp) rfl)
                  unfold frG
                  go_wp2_with fail
                  exact hQ.out _ _ ⟨.pointer (some ⟨g2, j * 4, none⟩), by rw [← upd1_id r2]; rfl, trivial, rfl, stateG_ext hC (ext_refl _) rfl rfl rfl⟩
                · have r3 : g1 60 = .pointer (some ⟨g2, j * 4, none⟩) := hR 3 (hdeps ⟨3, .data⟩ (by simp) rfl)
                  obtain ⟨g3, hq3, hg3, CCa⟩ := cellsIn_cells (cellsIn_at CI.out (ext_iff.1 hC.1)) hlt2
                  have hgg : g2 = g3 := by injection hq3 with h; injection h with h
                  subst hgg
                  obtain ⟨a0, a1, a2, a3⟩ := CCa _ hlt2
                  rw [hcj] at a0 a1 a2 a3
                  dsimp only at a0 a1 a2 a3
                  clear CCa hq3
                  unfold frG
                  go_wp2_with fail
                  exact hQ.out _ _ ⟨.string c1, by rw [← upd1_id r3]; rfl, trivial, rfl, stateG_ext hC (ext_refl _) rfl rfl rfl⟩
                · unfold frG
                  go_wp2_with fail
                  exact hQ.out _ _ ⟨.slice (some ⟨g2, 0, none⟩) cs.length cap2, rfl, trivial, rfl, stateG_ext hC (ext_refl _) rfl rfl rfl⟩
                · unfold frG
                  go_wp2_with fail
                  exact hQ.out _ _ ⟨.int .i64 j, rfl, trivial, rfl, stateG_ext hC (ext_refl _) rfl rfl rfl⟩
                · have r5 : g1 62 = .slice (some ⟨g2, 0, none⟩) cs.length cap2 := hR 5 (hdeps ⟨5, .data⟩ (by simp) rfl)
                  have r6 : g1 63 = .int .i64 j := hR 6 (hdeps ⟨6, .data⟩ (by simp) rfl)
                  unfold frG
                  go_wp2_with fail
                  exact hQ.out _ _ ⟨.pointer (some ⟨g2, j * 4, none⟩), by rw [← upd1_id r5, ← upd1_id r6]; rfl, trivial, rfl, stateG_ext hC (ext_refl _) rfl rfl rfl⟩
                · have r7 : g1 64 = .pointer (some ⟨g2, j * 4, none⟩) := hR 7 (hdeps ⟨7, .data⟩ (by simp) rfl)
                  unfold frG
                  go_wp2_with fail
                  exact hQ.out _ _ ⟨.pointer (some ⟨g2, j * 4 + 1, none⟩), by rw [← upd1_id r7]; rfl, trivial, rfl, stateG_ext hC (ext_refl _) rfl rfl rfl⟩
                · have r8 : g1 65 = .pointer (some ⟨g2, j * 4 + 1, none⟩) := hR 8 (hdeps ⟨8, .data⟩ (by simp) rfl)
                  obtain ⟨g3, hq3, hg3, CCa⟩ := cellsIn_cells (cellsIn_at CI.out (ext_iff.1 hC.1)) hlt2
                  have hgg : g2 = g3 := by injection hq3 with h; injection h with h
                  subst hgg
                  obtain ⟨a0, a1, a2, a3⟩ := CCa _ hlt2
                  rw [hcj] at a0 a1 a2 a3
                  dsimp only at a0 a1 a2 a3
                  clear CCa hq3
                  unfold frG
                  go_wp2_with fail
                  exact hQ.out _ _ ⟨.string c2, by rw [← upd1_id r8]; rfl, trivial, rfl, stateG_ext hC (ext_refl _) rfl rfl rfl⟩
                · have r4 : g1 61 = .string c1 := hR 4 (hdeps ⟨4, .data⟩ (by simp) rfl)
                  have r9 : g1 66 = .string c2 := hR 9 (hdeps ⟨9, .data⟩ (by simp) rfl)
                  unfold frG
                  go_wp2_with fail
                  refine (GT _ (T6.out.ext hC.1)).mono ?_
                  rintro _ w9 ⟨rfl, hx⟩
                  go_wp2_with fail
                  exact hQ.out _ _ ⟨.tuple #[.agg #[.string c1, .string c2, .string c3, .string c4], .nilIface], by rw [← upd1_id r4, ← upd1_id r9]; rfl, trivial, rfl, stateG_ext hC hx rfl rfl rfl⟩
                · have r10 : g1 67 = .tuple #[.agg #[.string c1, .string c2, .string c3, .string c4], .nilIface] := hR 10 (hdeps ⟨10, .data⟩ (by simp) rfl)
                  unfold frG
                  go_wp2_with fail
                  exact hQ.out _ _ ⟨.tuple #[.agg #[.string c1, .string c2, .string c3, .string c4], .nilIface], by rw [← upd1_id r10]; rfl, trivial, rfl, stateG_ext hC (ext_refl _) rfl rfl rfl⟩
                · have r11 : g1 56 = .tuple #[.agg #[.string c1, .string c2, .string c3, .string c4], .nilIface] := hR 11 (hdeps ⟨11, .data⟩ (by simp) rfl)
                  unfold frG
                  go_wp2_with fail
                  exact hQ.out _ _ ⟨.agg #[.string c1, .string c2, .string c3, .string c4], by rw [← upd1_id r11]; rfl, trivial, rfl, stateG_ext hC (ext_refl _) rfl rfl rfl⟩
                · have r11 : g1 56 = .tuple #[.agg #[.string c1, .string c2, .string c3, .string c4], .nilIface] := hR 11 (hdeps ⟨11, .data⟩ (by simp) rfl)
                  unfold frG
                  go_wp2_with fail
                  exact hQ.out _ _ ⟨.nilIface, by rw [← upd1_id r11]; rfl, trivial, rfl, stateG_ext hC (ext_refl _) rfl rfl rfl⟩
                · unfold frG
                  go_wp2_with fail
                  exact hQ.out _ _ ⟨.pointer (some ⟨w8.heap.size, 0, none⟩), rfl, trivial, trivial, ext_alloc _ hC.1, fun _ => rfl, fun _ => ⟨w8.heap.size, rfl, (ext_iff.1 hC.1).size, by show _ = some (Obj.cells (if L 15 = true then _ else _) _ _); rw [if_neg (fun h => by have := hC.2.1 h; rw [hLi] at this; cases this)]; exact heap_alloc_at w8 _⟩⟩
                · have r12 : g1 68 = .agg #[.string c1, .string c2, .string c3, .string c4] := hR 12 (hdeps ⟨12, .data⟩ (by simp) rfl)
                  have l14 : L 14 = true := hdeps ⟨14, .data⟩ (by simp) rfl
                  obtain ⟨kb, r14, hkb, hcb⟩ := hC.2.2 l14
                  rw [if_neg (by simp [hLi])] at hcb
                  have hcb := Lib.hid hcb
                  obtain ⟨z0, z1, z2, z3⟩ := cell_cells (c := zeroC) hcb.out
                  have fz := free_of_heap hcb.out
                  unfold zeroC at z0 z1 z2 z3
                  dsimp only at z0 z1 z2 z3
                  unfold frG
                  go_wp2_with fail
                  obtain ⟨S4, U4⟩ := set4c (by rfl) hcb.out ⟨c1, c2, c3, c4⟩
                  exact hQ.out _ _ ⟨undef, by rw [← upd1_id r12, ← upd1_id r14]; rfl, trivial, trivial, ext_of ((ext_iff.1 hC.1).grown U4 (ext_iff.1 hC.1).size (by rintro _ ⟨⟩; exact hkb)), fun _ => l14, fun _ => ⟨kb, r14, hkb, S4⟩⟩
                · have r13 : g1 69 = .nilIface := hR 13 (hdeps ⟨13, .data⟩ (by simp) rfl)
                  unfold frG
                  go_wp2_with fail
                  exact hQ.out _ _ ⟨.nilIface, by rw [← upd1_id r13]; rfl, trivial, rfl, stateG_ext hC (ext_refl _) rfl rfl rfl⟩
              intro L g1 wc hL hR hC
              obtain ⟨XC, -, h7⟩ := hC
              obtain ⟨kb, r7, hkb, hcb⟩ := h7 (hL 14 (by simp))
              rw [if_pos (hL 15 (by simp))] at hcb
              have r8 : g1 8 = .nilIface := hR 16 (by simp)
              have XC := Lib.hid XC
              have HC := Lib.hid hcb
              clear hL hR h7 hcb XA TA CIa CCa a0 a1 a2 a3 hg3 hq3
              unfold frG
              rw [r7, r8]
              go_wp2_with fail
              have CIc := cellsIn_at CI.out (ext_iff.1 XC.out)
              obtain ⟨g3, hq3, hg3, CCa⟩ := cellsIn_cells CIc hlt2
              have hgg : g2 = g3 := by injection hq3 with h; injection h with h
              subst hgg
              obtain ⟨a0, a1, a2, a3⟩ := CCa _ hlt2
              rw [hcj] at a0 a1 a2 a3
              dsimp only at a0 a1 a2 a3
              obtain ⟨k0, k1, k2, k3⟩ := cell_cells (c := ⟨c1, c2, c3, c4⟩) HC.out
              have lk := lt_of_heap HC.out
              dsimp only at k0 k1 k2 k3
              clear CCa CIc
              refine wp_region_ext (by kernel_rfl) (by kernel_rfl) ?_
              repeat (go_big_quiet_step (fail))
              refine wpQuiet_nil ?_
              rintro _ ⟨y3, rfl⟩
              have XD := Lib.hid (ext_trans XC.out ⟨y3, rfl⟩)
              generalize ext wc y3 = wd at XD ⊢
              clear a0 a1 a2 a3 k0 k1 k2 k3 lk HC XC
              go_wp2_with fail
              go_roundw
              case rel => first | exact ⟨j + 1, by omega, (by first | go_num | rfl), XD⟩ | exact ⟨j + 1, by omega, by first | go_num | rfl⟩
              case measure => simp [intOf]; omega

          · obtain rfl : j = cs.length := by omega
            have T8 := Lib.hid (T6.out.ext XJ.out)
            have B8 := Lib.hid (ext_iff.1 XJ.out)
            have C8 := Lib.hid (cellsIn_at CI.out (ext_iff.1 XJ.out))
            have E8 : Hid (l ≠ [] → ∃ g o, q = some ⟨g, o, none⟩ ∧ Env wr tb lb g o cp l) := Lib.hid (fun hne => by
              obtain ⟨g, o, h1, h2⟩ := ENV.out hne
              exact ⟨g, o, h1, h2.at T8.out.below⟩)
            have LQ := Lib.hid (cell_below T8.out.below hlb CL.out)
            have htb8 : tb ≤ wr.heap.size := by
              have := T8.out.below.size
              rw [htb] at this; exact this
            have ON8 := Lib.hid T8.out.once
            have XE : Hid (∃ x, wr = ext w x) := Lib.hid (ext_trans X3.out (ext_of (by rw [htb]; exact T8.out.below)))
            clear CI XJ T6 hO clq TF hA T8 B8 CL ENV htb
            go_wp2_with fail
            have I0 := Lib.hid (heap_alloc_at wr (.cells #[.int .i64 0] 3))
            have X0 := Lib.hid ((Below.refl wr.heap.size wr).alloc (Nat.le_refl _) (.cells #[.int .i64 0] 3))
            generalize hm8 : wr.heap.size = m8 at *
            generalize wr.alloc (.cells #[.int .i64 0] 3) = w9 at I0 X0 ⊢
            go_loopw [9] (fun pv wx => ∃ i ib : Nat, i ≤ l.length ∧ pv = .pointer (some ⟨ib, 0, none⟩) ∧ m8 ≤ ib ∧ Hid (wx.heap[ib]? = some (.cells #[.int .i64 i] 3 (0, 0))) ∧ Hid (Below m8 wr wx)) (fun pv wx => l.length - rdI pv wx)
            case atStart => exact ⟨0, m8, Nat.zero_le _, rfl, Nat.le_refl _, I0, X0⟩
            case round =>
              clear I0 X0 w9
              obtain ⟨i, ib, hi, rfl, hib, HI, BX⟩ := hrel
              have I1 := cell1 HI.out
              have LQ1 := cell_below BX.out (show lb < m8 by omega) LQ.out
              have hbi := lt_of_heap HI.out
              by_cases hlt3 : i < l.length
              · have hlt3' : (i : Int) < l.length := by omega
                obtain ⟨g, o, rfl, EN⟩ := E8.out (by intro e; rw [e] at hlt3; cases hlt3)
                have EX := Lib.hid (EN.at (BX.out.mono htb8))
                clear EN
                have hx := List.getElem?_eq_getElem hlt3
                have hsx := SM.out _ (List.getElem_mem hlt3)
                have HD := Lib.hid (show l = l.take i ++ l[i] :: l.drop (i + 1) by rw [List.getElem_cons_drop, List.take_append_drop])
                generalize l[i] = x at hx hsx HD
                obtain ⟨e0, e1, e2, e3, e4⟩ := EX.out.cells hx
                have RT := fun w => right_any x w hsx
                generalize hok : rightE okV x = ok at RT
                unfold evV at RT
                have hm8x : m8 ≤ wr.heap.size := by have := BX.out.size; rw [hm8] at this; exact this
                by_cases hk1 : x.kind = 1
                · rw [hk1] at RT
                  go_wp2_with fail
                  refine (RT _).mono ?_
                  rintro _ wy ⟨rfl, hy⟩
                  have BY := Lib.hid (BX.out.trans ((ext_iff.1 hy).mono hm8x))
                  have HY := Lib.hid (((ext_iff.1 hy).block _ hbi).trans HI.out)
                  have EY := Lib.hid (EX.out.at ((ext_iff.1 hy).mono (Nat.le_trans htb8 hm8x)))
                  have LY := cell_below BY.out (show lb < m8 by omega) LQ.out
                  have I2 := cell1 HY.out
                  have hby := lt_of_heap HY.out
                  have hm8y := Nat.le_trans hm8x (ext_iff.1 hy).size
                  clear RT EX BX LQ1 I1 e0 e1 e2 e3 e4 hy hbi hm8x
                  cases ok with
                  | false =>
                    clear LY EY
                    go_wp2_with fail
                    exact round_cont hlt3 HI BY.out hm8y
                  | true =>
                    have hi1 : (i : Int) + 1 ≤ l.length := Int.ofNat_le.2 hlt3
                    have hi1n : i + 1 ≤ l.length := hlt3
                    have hcp' : (l.length : Int) ≤ cp := Int.ofNat_le.2 hcp
                    have A1 := any_rest (fun e => hitsE okV e (cellE x)) 57 lb ib g o cp i l x (enters_of Tryd.func57 (by kernel_rfl) rfl) (fun e W hs hc => last1_any e W lb ib g o _ cp i x hc hs) hn hcp SM.out EY.out I2 hby hx
                    generalize hb1 : (l.drop (i + 1)).any (fun e => hitsE okV e (cellE x)) = b1 at A1
                    have hb1 := Lib.hid hb1
                    go_wp2_with (go_at_call 56; generalize (if cp = i + 1 then (some ⟨g, o, none⟩ : Option Addr) else some ⟨g, o + (i + 1) * 5, none⟩) = qa at A1 ⊢; refine A1.mono ?_; rintro _ wz ⟨rfl, hz⟩; have hz := Lib.hid hz)
                    have hz := hz.out
                    have BZ := Lib.hid (BY.out.trans ((ext_iff.1 hz).mono hm8y))
                    have HZ := Lib.hid (((ext_iff.1 hz).block _ hby).trans HY.out)
                    have EZ := Lib.hid (EY.out.at ((ext_iff.1 hz).mono (Nat.le_trans htb8 hm8y)))
                    have LZ := cell_below BZ.out (show lb < m8 by omega) LQ.out
                    have I3 := cell1 HZ.out
                    have hbz := lt_of_heap HZ.out
                    have hm8z := Nat.le_trans hm8y (ext_iff.1 hz).size
                    clear A1 BY HY EY LY I2 hby hm8y hz
                    obtain ⟨e0, e1, e2, e3, e4⟩ := EZ.out.cells hx
                    cases b1 with
                    | false =>
                      have kl : lb < wz.heap.size := Nat.lt_of_lt_of_le EZ.out.hl EZ.out.hm
                      have kg : g < wz.heap.size := Nat.lt_of_lt_of_le EZ.out.hg EZ.out.hm
                      have HC := fun y => hasC_any (cellE x) q2 cap2 cs (ext wz y) (by omega) (cellsIn_at C8.out (((ext_iff.1 (show ∃ z, ext wz y = ext wz z from ⟨y, rfl⟩))|>.mono hm8z |> BZ.out.trans).mono (Nat.le_of_eq hm8)))
                      rw [show (cs.any fun y => cellEq (cellE x) y) = true from by
                        have h1 := last_there okV (l := l.take i) (m := l.drop (i + 1)) (e := x) hok hk1 hb1.out
                        rw [← HD.out] at h1
                        exact List.any_eq_true.2 ⟨_, hp.out.mem_iff.2 h1, cellEq_iff.2 rfl⟩] at HC
                      unfold cellA cellE at HC
                      dsimp only at HC
                      go_wp2_with fail
                      refine wp_region_ext (by kernel_rfl) (by kernel_rfl) ?_
                      repeat (go_big_quiet_step ((go_at_call 58; refine (HC _).mono ?_; rintro _ _ ⟨rfl, hx⟩; exact ⟨rfl, ext_trans ⟨_, rfl⟩ hx⟩)))
                      refine wpQuiet_nil ?_
                      rintro _ ⟨y, rfl⟩
                      have BV := Lib.hid (BZ.out.trans ((ext_iff.1 (show ∃ z, ext wz y = ext wz z from ⟨y, rfl⟩)).mono hm8z))
                      have hm8v := Nat.le_trans hm8z (ext_iff.1 (show ∃ z, ext wz y = ext wz z from ⟨y, rfl⟩)).size
                      have I4 := (ext_iff.1 (show ∃ z, ext wz y = ext wz z from ⟨y, rfl⟩)).block _ hbz
                      rw [HZ.out] at I4
                      have I4 := cell1 I4
                      generalize ext wz y = wv at BV hm8v I4 ⊢
                      clear HC EZ LZ BZ HZ I3 hbz hm8z e0 e1 e2 e3 e4 kl kg
                      go_wp2_with fail
                      exact round_cont hlt3 HI BV.out hm8v
                    | true =>
                      have kl : lb < wz.heap.size := Nat.lt_of_lt_of_le EZ.out.hl EZ.out.hm
                      have kg : g < wz.heap.size := Nat.lt_of_lt_of_le EZ.out.hg EZ.out.hm
                      go_wp2_with fail
                      refine wp_region_ext (by kernel_rfl) (by kernel_rfl) ?_
                      repeat (go_big_quiet_step (fail))
                      refine wpQuiet_nil ?_
                      rintro _ ⟨y, rfl⟩
                      have hv : ∃ z, ext wz y = ext wz z := ⟨y, rfl⟩
                      have BV := Lib.hid (BZ.out.trans ((ext_iff.1 hv).mono hm8z))
                      have hm8v := Nat.le_trans hm8z (ext_iff.1 hv).size
                      have I4 := cell_below (ext_iff.1 hv) hbz I3
                      have EV := Lib.hid (EZ.out.at ((ext_iff.1 hv).mono (Nat.le_trans htb8 hm8z)))
                      have LV := cell_below (ext_iff.1 hv) kl LZ
                      have hbv := Nat.lt_of_lt_of_le hbz (ext_iff.1 hv).size
                      have klv := Nat.lt_of_lt_of_le kl (ext_iff.1 hv).size
                      clear hv
                      generalize ext wz y = wv at BV hm8v I4 EV LV hbv klv ⊢
                      clear EZ LZ BZ HZ I3 hbz hm8z e0 e1 e2 e3 e4 kl kg
                      have htv := Nat.le_trans htb8 hm8v
                      have CV := Lib.hid (cellsIn_at C8.out (BV.out.mono (Nat.le_of_eq hm8)))
                      have CP := Lib.hid (EV.out.cap I4 hbv hx)
                      have A2 := any_rest (fun e => decide (e.kind = 3) && decide (txt e.subject = txt x.subject) && rightE okV e) 59 lb ib g o cp i l x (enters_of Tryd.func59 (by kernel_rfl) rfl) (fun e W hs hc => last2_any e W lb ib g o _ cp i x hc hs) hn hcp SM.out EV.out I4 hbv hx
                      have A3 := fun W (h : ∃ z, W = ext wv z) => any_rest (fun e => decide (e.kind = 1) && decide (txt e.subject = txt x.subject)) 60 lb ib g o cp i l x (enters_of Tryd.func60 (by kernel_rfl) rfl) (fun e W hs hc => last3_any e W lb ib g o _ cp i x hc) hn hcp SM.out (EV.out.at ((ext_iff.1 h).mono htv)) (cell_below (ext_iff.1 h) hbv I4) (Nat.lt_of_lt_of_le hbv (ext_iff.1 h).size) hx
                      have A4 := fun W (h : ∃ z, W = ext wv z) => anyC_any (fun c => decide (txt c.subject = txt x.subject)) 62 #[.pointer (some ⟨lb, 0, none⟩), .pointer (some ⟨ib, 0, none⟩)] (enters_of Tryd.func62 (by kernel_rfl) rfl) q2 cap2 cs W (fun W' c hb => (last4_any c W' lb ib g o _ cp i x ((CP.out.of (ext_iff.1 h) (Nat.le_refl _)).of hb (Nat.le_refl _))).mono fun e w' ⟨h1, h2⟩ => ⟨h1, hb.trans ((ext_iff.1 h2).mono hb.size)⟩) (by omega) (cellsIn_at CV.out (ext_iff.1 h))
                      have LG := Lib.hid (fun h2 h3 => last_gone okV (l := l.take i) (m := l.drop (i + 1)) (e := x) (s := txt x.subject) h2 h3)
                      rw [← HD.out] at LG
                      generalize (l.drop (i + 1)).any (fun e => decide (e.kind = 3) && decide (txt e.subject = txt x.subject) && rightE okV e) = b2 at A2 LG
                      generalize (l.drop (i + 1)).any (fun e => decide (e.kind = 1) && decide (txt e.subject = txt x.subject)) = b3 at A3 LG
                      clear CP CV EV
                      cases b2 with
                      | false =>
                        clear A3 A4 LG
                        go_wp2_with (go_at_call 56; generalize (if cp = i + 1 then (some ⟨g, o, none⟩ : Option Addr) else some ⟨g, o + (i + 1) * 5, none⟩) = qa at A2 ⊢; refine A2.mono ?_; rintro _ wa ⟨rfl, ha⟩; have LA := cell_below (ext_iff.1 ha) klv LV; have IA := cell_below (ext_iff.1 ha) hbv I4; have ha := Lib.hid ha; clear A2)
                        exact round_cont hlt3 HI (BV.out.trans ((ext_iff.1 ha.out).mono hm8v)) (Nat.le_trans hm8v (ext_iff.1 ha.out).size)
                      | true =>
                        cases b3 with
                        | true =>
                          clear A4 LG
                          go_wp2_with (first | (go_at_call 56; generalize (if cp = i + 1 then (some ⟨g, o, none⟩ : Option Addr) else some ⟨g, o + (i + 1) * 5, none⟩) = qa at A2 ⊢; refine A2.mono ?_; rintro _ wa ⟨rfl, ha⟩; have LA := cell_below (ext_iff.1 ha) klv LV; have IA := cell_below (ext_iff.1 ha) hbv I4; have ha := Lib.hid ha; clear A2) | (go_at_call 56; generalize (if cp = i + 1 then (some ⟨g, o, none⟩ : Option Addr) else some ⟨g, o + (i + 1) * 5, none⟩) = qa at A3 ⊢; refine (A3 _ ha.out).mono ?_; rintro _ wb ⟨rfl, hb⟩; have hb := Lib.hid (ext_trans ha.out hb); have IB := cell_below (ext_iff.1 hb.out) hbv I4; clear A3))
                          exact round_cont hlt3 HI (BV.out.trans ((ext_iff.1 hb.out).mono hm8v)) (Nat.le_trans hm8v (ext_iff.1 hb.out).size)
                        | false =>
                          have hF := LG.out rfl rfl
                          rw [show (cs.any fun c => decide (txt c.subject = txt x.subject)) = false from by
                            rw [List.any_eq_false]
                            intro c hc
                            have := hF c (hp.out.mem_iff.1 hc)
                            simpa using this] at A4
                          clear LG hF
                          go_wp2_with (first | (go_at_call 56; generalize (if cp = i + 1 then (some ⟨g, o, none⟩ : Option Addr) else some ⟨g, o + (i + 1) * 5, none⟩) = qa at A2 ⊢; refine A2.mono ?_; rintro _ wa ⟨rfl, ha⟩; have LA := cell_below (ext_iff.1 ha) klv LV; have IA := cell_below (ext_iff.1 ha) hbv I4; have ha := Lib.hid ha; clear A2) | (go_at_call 56; generalize (if cp = i + 1 then (some ⟨g, o, none⟩ : Option Addr) else some ⟨g, o + (i + 1) * 5, none⟩) = qa at A3 ⊢; refine (A3 _ ha.out).mono ?_; rintro _ wb ⟨rfl, hb⟩; have hb := Lib.hid (ext_trans ha.out hb); have IB := cell_below (ext_iff.1 hb.out) hbv I4; clear A3) | (go_at_call 61; refine (A4 _ hb.out).mono ?_; rintro _ wc ⟨rfl, hc⟩; have hc := Lib.hid (ext_trans hb.out hc); have IC := cell_below (ext_iff.1 hc.out) hbv I4; clear A4))
                          exact round_cont hlt3 HI (BV.out.trans ((ext_iff.1 hc.out).mono hm8v)) (Nat.le_trans hm8v (ext_iff.1 hc.out).size)
                · have BY := BX
                  clear EX BX
                  go_wp2_with fail
                  exact round_cont hlt3 HI BY.out hm8x
              · obtain rfl : i = l.length := by omega
                have BX' := Lib.hid BX.out
                go_wp2_with fail
                go_ret
                exact ⟨rfl, ext_trans XE.out (ext_of (by rw [hm8]; exact BX'.out))⟩
end Go.Proofs.YtjmbobjifojoiaaDoor
