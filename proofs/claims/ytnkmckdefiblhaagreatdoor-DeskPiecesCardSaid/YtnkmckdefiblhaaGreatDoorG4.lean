/- cmp.Compare, cmp.Or, table.Compare (the walks). · A table's map in memory, as rows. -/
import Derived.Test.YtnkmckdefiblhaaGreatDoorProg
import Derived.Test.YtnkmckdefiblhaaGreatDoorG1
import Derived.Test.YtnkmckdefiblhaaGreatDoorBase
import Derived.Test.YtnkmckdefiblhaaGreatDoorG3
import Derived.Maps.Own
import Derived.Maps.OwnSet
import Derived.Maps.Views
import Derived.Maps.RangeWalk
import Derived.DeepKeys4
namespace Go.Proofs.YtnkmckdefiblhaaGreatDoor
open Go.RowKit

set_option maxRecDepth 100000 in
theorem nan_any (x : ByteArray) (w : World) : Calls Tryz.prog 156 #[.string x] w fun e w' => e = .returned (.bool false) ∧ w' = w := by
  go_enter Tryz.func156, Tryz.ntmps156
  go_wp2_with fail
  go_ret
  exact ⟨by simp, rfl⟩
set_option maxRecDepth 100000 in
theorem compare_any (x y : ByteArray) (w : World) : Calls Tryz.prog 126 #[.string x, .string y] w fun e w' => e = .returned (.int .i64 (cmpL (txt x) (txt y))) ∧ w' = w := by
  have hx : x.toList = txt x := ByteArray.toList_eq x
  have hy : y.toList = txt y := ByteArray.toList_eq y
  have h1 : Hid (Op.bytesLess x.toList y.toList = true → cmpL (txt x) (txt y) = -1) := Lib.hid fun h => by unfold cmpL; rw [← hx, ← hy, if_pos h]
  have h2 : Hid (Op.bytesLess x.toList y.toList = false → (!x.toList == y.toList) = true → cmpL (txt x) (txt y) = 1) := Lib.hid fun h h' => by
    unfold cmpL; rw [← hx, ← hy, if_neg (by rw [h]; simp), if_neg (by simpa using h')]
  have h3 : Hid (Op.bytesLess x.toList y.toList = false → (!x.toList == y.toList) = false → cmpL (txt x) (txt y) = 0) := Lib.hid fun h h' => by
    unfold cmpL; rw [← hx, ← hy, if_neg (by rw [h]; simp), if_pos (by simpa using h')]
  clear hx hy
  go_enter Tryz.func126, Tryz.ntmps126
  go_wp2_with fail
  refine (nan_any _ _).mono ?_
  rintro _ w2 ⟨rfl, rfl⟩
  go_wp2_with fail
  refine (nan_any _ _).mono ?_
  rintro _ w3 ⟨rfl, rfl⟩
  cases hb : Op.bytesLess x.toList y.toList with
  | true =>
    have HE := Lib.hid (h1.out hb)
    clear h1 h2 h3
    go_wp2_with fail
    go_ret
    exact ⟨by rw [HE.out]; rfl, rfl⟩
  | false =>
    cases he : (!x.toList == y.toList) with
    | true =>
      have HE := Lib.hid (h2.out hb he)
      clear h1 h2 h3
      go_wp2_with fail
      go_ret
      exact ⟨by rw [HE.out]; rfl, rfl⟩
    | false =>
      have HE := Lib.hid (h3.out hb he)
      clear h1 h2 h3
      go_wp2_with fail
      go_ret
      exact ⟨by rw [HE.out]; rfl, rfl⟩
set_option maxRecDepth 100000 in
theorem or_any (a b : Int) (g : Nat) (w : World) (h : w.heap[g]? = some (.cells #[.int .i64 a, .int .i64 b] 3 (0, 0))) :
    Calls Tryz.prog 125 #[.slice (some ⟨g, 0, none⟩) 2 2] w fun e w' => e = .returned (.int .i64 (if a = 0 then b else a)) ∧ w' = w := by
  have c0 : w.cell? ⟨g, 0, none⟩ = some (.int .i64 a) := by rw [cell_in, h]; rfl
  have c1 : w.cell? ⟨g, 1, none⟩ = some (.int .i64 b) := by rw [cell_in, h]; rfl
  clear h
  go_enter Tryz.func125, Tryz.ntmps125
  go_wp2_with fail
  go_loopw [8] (fun iv wr => ∃ k : Nat, k ≤ 2 ∧ iv = .int .i64 k ∧ (1 ≤ k → a = 0) ∧ (2 ≤ k → b = 0) ∧ wr = w) (fun iv _ => 2 - (intOf iv).toNat)
  case atStart => exact ⟨0, Nat.zero_le _, rfl, fun h => absurd h (by decide), fun h => absurd h (by decide), rfl⟩
  case round =>
    obtain ⟨k, hk, rfl, ha, hb, rfl⟩ := hrel
    obtain rfl | rfl | rfl : k = 0 ∨ k = 1 ∨ k = 2 := by omega
    · by_cases z : a = 0
      · have hz : (a != 0) = false := by simp [z]
        go_wp2_with fail
        go_roundw
        case rel => exact ⟨1, by omega, by rfl, fun _ => z, fun h => absurd h (by decide), by first | rfl | trivial⟩
        case measure => simp [intOf]
      · have hz : (a != 0) = true := by simp [z]
        clear ha hb
        go_wp2_with fail
        go_ret
        exact ⟨by first | rfl | (rw [if_neg z]; rfl), rfl⟩
    · have z := ha (by decide)
      by_cases y : b = 0
      · have hz : (b != 0) = false := by simp [y]
        clear ha hb
        go_wp2_with fail
        go_roundw
        case rel => exact ⟨2, by omega, by rfl, fun _ => z, fun _ => y, by first | rfl | trivial⟩
        case measure => simp [intOf]
      · have hz : (b != 0) = true := by simp [y]
        clear ha hb
        go_wp2_with fail
        go_ret
        exact ⟨rfl, rfl⟩
    · have z := ha (by decide)
      have y := hb (by decide)
      clear ha hb
      have z := Lib.hid z
      have y := Lib.hid y
      go_wp2_with fail
      go_ret
      exact ⟨by first | rfl | (rw [if_pos z.out, y.out]; rfl), rfl⟩

/-- A row's cells. -/
def cellVs (c : Cell) : List Value := [.string c.table, .string c.row, .string c.subject, .string c.value]
def cellA (c : Cell) : Array Value := #[.string c.table, .string c.row, .string c.subject, .string c.value]
theorem cell_cells {w : World} {b : Nat} {c : Cell} {t : TypeId} {f : Nat × Nat} (h : w.heap[b]? = some (.cells (cellA c) t f)) :
    w.cell? ⟨b, 0, none⟩ = some (.string c.table) ∧ w.cell? ⟨b, 1, none⟩ = some (.string c.row) ∧ w.cell? ⟨b, 2, none⟩ = some (.string c.subject) ∧ w.cell? ⟨b, 3, none⟩ = some (.string c.value) := by
  refine ⟨?_, ?_, ?_, ?_⟩ <;> (rw [cell_in, h]; rfl)
set_option maxRecDepth 100000 in
set_option maxHeartbeats 1000000 in
theorem tcompare_any (c d : Cell) (w : World) :
    Calls Tryz.prog 98 #[.agg (cellA c), .agg (cellA d)] w fun e w' => e = .returned (.int .i64 (ccmp c d)) ∧ ∃ x, w' = ext w x := by
  have C1 := fun w => compare_any c.table d.table w
  have C2 := fun w => compare_any c.row d.row w
  have HE : Hid (ccmp c d = if cmpL (txt c.table) (txt d.table) = 0 then cmpL (txt c.row) (txt d.row) else cmpL (txt c.table) (txt d.table)) := Lib.hid rfl
  generalize cmpL (txt c.table) (txt d.table) = a at C1 HE
  generalize cmpL (txt c.row) (txt d.row) = b at C2 HE
  generalize ccmp c d = r at HE
  unfold cellA
  obtain ⟨t, o, s, v⟩ := c
  obtain ⟨t', o', s', v'⟩ := d
  dsimp only at C1 C2 ⊢
  go_enter Tryz.func98, Tryz.ntmps98
  go_wp2_with fail
  have H0 : Hid ((w.alloc (.cells #[.string t, .string o, .string s, .string v] 152)).heap[w.heap.size]? = some (.cells (cellA ⟨t, o, s, v⟩) 152 (0, 0))) := Lib.hid (heap_alloc_at _ _)
  have X0 := Lib.hid (ext_alloc (.cells #[.string t, .string o, .string s, .string v] 152) (ext_refl w))
  have e0 : (w.alloc (.cells #[.string t, .string o, .string s, .string v] 152)).heap.size = w.heap.size + 1 := by simp
  generalize w.alloc (.cells #[.string t, .string o, .string s, .string v] 152) = w0 at H0 X0 e0 ⊢
  have H1 : Hid ((w0.alloc (.cells #[.string t', .string o', .string s', .string v'] 152)).heap[w.heap.size + 1]? = some (.cells (cellA ⟨t', o', s', v'⟩) 152 (0, 0))) := Lib.hid (by rw [← e0]; exact heap_alloc_at _ _)
  have H01 := Lib.hid ((heap_alloc_old w0 (.cells #[.string t', .string o', .string s', .string v'] 152) (lt_of_heap H0.out)).trans H0.out)
  have X1 := Lib.hid (ext_alloc (.cells #[.string t', .string o', .string s', .string v'] 152) X0.out)
  generalize w0.alloc (.cells #[.string t', .string o', .string s', .string v'] 152) = w1 at H1 H01 X1 ⊢
  clear H0 X0 e0
  obtain ⟨c0, c1, c2, c3⟩ := cell_cells H01.out
  obtain ⟨d0, d1, d2, d3⟩ := cell_cells H1.out
  have lw1 := lt_of_heap H1.out
  dsimp only at c0 c1 c2 c3 d0 d1 d2 d3
  refine wp_region_tail 10 (by kernel_rfl) (by kernel_rfl) ?_
  simp only [List.take_succ_cons, List.take_zero, List.drop_succ_cons, List.drop_zero]
  iterate 5 (go_big_quiet_step ((go_at_call 126; refine (C1 _).mono ?_; rintro _ _ ⟨rfl, rfl⟩; exact ⟨rfl, ⟨_, rfl⟩⟩)))
  repeat (go_big_quiet_step ((go_at_call 126; refine (C2 _).mono ?_; rintro _ _ ⟨rfl, rfl⟩; exact ⟨rfl, ⟨_, rfl⟩⟩)))
  refine wpQuiet_nil ?_
  rintro _ ⟨x, rfl⟩
  have X2 := Lib.hid (ext_trans X1.out ⟨x, rfl⟩)
  generalize ext w1 x = w2 at X2 ⊢
  clear H1 H01 X1 c0 c1 c2 c3 d0 d1 d2 d3 lw1
  have HS := heap_alloc_at w2 (.cells #[.int .i64 a, .int .i64 b] 3)
  have X3 := Lib.hid (ext_alloc (.cells #[.int .i64 a, .int .i64 b] 3) X2.out)
  go_wp2_with fail
  refine (or_any a b _ _ HS).mono ?_
  rintro _ w3 ⟨rfl, rfl⟩
  rw [← HE.out]
  clear HS
  go_wp2_with fail
  go_ret
  exact ⟨rfl, X3.out⟩
end Go.Proofs.YtnkmckdefiblhaaGreatDoor
namespace Go.Proofs.YtnkmckdefiblhaaGreatDoor
open Go.RowKit Go.WideShapes

theorem keyLaw : WideMaps.KeyLaw Tryz.prog 197 := deep_law_laid (by kernel_rfl) (m := 2) (by omega) (of_decide_eq_true (by kernel_rfl)) (by kernel_rfl) (by rw [Tryz.underlying197])
theorem lawA : Maps.Keyed Tryz.prog 197 := Maps.Keyed.of_law keyLaw
/-- A row's place as a key. -/
def keyLit (k : List UInt8 × List UInt8) : Lit := .string (keyBytes [.string k.1, .string k.2])
set_option maxRecDepth 100000 in
theorem key_of (t r : ByteArray) (ht : t.size ≤ maxLen) (hr : r.size ≤ maxLen) : keyOf Tryz.prog 197 (.agg #[.string t, .string r]) = some (keyLit (txt t, txt r)) := by
  have hk : Tryz.prog.keyType 197 = true := by kernel_rfl
  have hf : (Value.agg #[.string t, .string r]).formed Tryz.prog 197 = true := by
    have hc : Tryz.prog.cellsOf 197 = 2 := by kernel_rfl
    simp [Value.formed, Tryz.underlying197, hc]
  have hn : Tryz.prog.types.size + 1 = (Tryz.prog.types.size - 1) + 1 + 1 := by
    have : Tryz.prog.types.size ≠ 0 := by
      have h : (197 : Nat) < Tryz.prog.types.size := of_decide_eq_true (by kernel_rfl)
      omega
    omega
  have hl : Tryz.prog.keyLits (Tryz.prog.types.size + 1) 197 [.string t, .string r] = some [.string (txt t), .string (txt r)] := by
    have hc : Tryz.prog.cellsOf 197 = 2 := by kernel_rfl
    have hs : Tryz.prog.cellsOf 9 = 1 := by kernel_rfl
    rw [hn]
    generalize Tryz.prog.types.size - 1 = m
    simp [Program.keyLits, Tryz.underlying197, Tryz.underlying9, hc, hs, ht, hr, txt]
  unfold keyOf
  rw [Tryz.underlying197]
  simp only [hk, hf, Bool.and_self, if_true]
  rw [show (Value.agg #[.string t, .string r]).cells.toList = [.string t, .string r] from rfl, hl]
  rfl
theorem keyLit_inj {t r t' r' : ByteArray} (ht : t.size ≤ maxLen) (hr : r.size ≤ maxLen) (ht' : t'.size ≤ maxLen) (hr' : r'.size ≤ maxLen) (h : keyLit (txt t, txt r) = keyLit (txt t', txt r')) : t = t' ∧ r = r' := by
  have h1 := key_of t r ht hr
  have h2 := key_of t' r' ht' hr'
  rw [← h] at h2
  have := lawA.inj h1 h2
  injection this with this
  simp only [Array.mk.injEq, List.cons.injEq, Value.string.injEq, and_true] at this
  exact this
def cellD (c : Cell) : DataW Unit := .agg [.lit (.string (txt c.table)), .lit (.string (txt c.row)), .lit (.string (txt c.subject)), .lit (.string (txt c.value))]
/-- How a row reads. -/
def cellR : Value → Option (DataW Unit × List MemPlace)
  | .agg cs => match cs.toList with
    | [.string a, .string b, .string c, .string d] => some (cellD ⟨a, b, c, d⟩, [])
    | _ => none
  | _ => none
theorem cellR_mk (c : Cell) : cellR (.agg (cellA c)) = some (cellD c, []) := rfl
theorem cellR_inv {v : Value} {y : DataW Unit × List MemPlace} (h : cellR v = some y) : ∃ c, v = .agg (cellA c) ∧ y = (cellD c, []) := by
  unfold cellR at h
  split at h
  · rename_i cs
    split at h
    · rename_i a b c d e
      injection h with h
      refine ⟨⟨a, b, c, d⟩, ?_, h.symm⟩
      have : cs = #[.string a, .string b, .string c, .string d] := by rw [← Array.toList_inj]; exact e
      rw [this]; rfl
    · cases h
  · cases h
theorem cellD_inj {c d : Cell} (h : cellD c = cellD d) : c = d := by
  unfold cellD at h
  simp only [DataW.agg.injEq, List.cons.injEq, DataW.lit.injEq, Lit.string.injEq, and_true] at h
  exact cell_ext (Prod.ext h.1 h.2.1) h.2.2.1 h.2.2.2
theorem zeroCell (w : World) : (zeroValue 152).run Tryz.prog w = .ok (.agg (cellA zeroC)) w := by kernel_rfl
def smallC (c : Cell) : Prop := c.table.size ≤ maxLen ∧ c.row.size ≤ maxLen
def ent (c : Cell) : Lit × DataW Unit := (keyLit (ck c), cellD c)
/-- A map that holds those rows. -/
structure mapAt (w : World) (b n : Nat) (T : List Cell) : Prop where
  own : ∃ es, w.ownsMap Tryz.prog 197 cellR b n (.map es) ∧ es.Perm (T.map ent)
  once : Once T
  small : ∀ c ∈ T, smallC c
theorem sameKey_lit (k k' : List UInt8 × List UInt8) : (keyLit k).sameKey (keyLit k') = true ↔ keyLit k = keyLit k' := by
  unfold keyLit Lit.sameKey
  simp
theorem ent_key {c : Cell} {t r : ByteArray} (hc : smallC c) (ht : t.size ≤ maxLen) (hr : r.size ≤ maxLen) : (ent c).1.sameKey (keyLit (txt t, txt r)) = decide (ck c = (txt t, txt r)) := by
  rw [Bool.eq_iff_iff, decide_eq_true_eq]
  unfold ent
  rw [sameKey_lit]
  constructor
  · intro h
    have := keyLit_inj (t := c.table) (r := c.row) hc.1 hc.2 ht hr h
    unfold ck
    rw [this.1, this.2]
  · intro h; rw [h]
theorem atKey_of {es : List (Lit × DataW Unit)} {T : List Cell} (hp : es.Perm (T.map ent)) (ho : Once T) (hs : ∀ c ∈ T, smallC c) {t r : ByteArray} (ht : t.size ≤ maxLen) (hr : r.size ≤ maxLen) (z : DataW Unit) :
    (DataW.map es).atKey (keyLit (txt t, txt r)) z = match findT (txt t, txt r) T with | some c => cellD c | none => z := by
  unfold DataW.atKey
  dsimp only
  cases hf : es.find? fun p => p.1.sameKey (keyLit (txt t, txt r)) with
  | none =>
    cases hg : findT (txt t, txt r) T with
    | none => rfl
    | some c =>
      obtain ⟨hm, hk⟩ := find_mem hg
      have h1 := List.find?_eq_none.1 hf (ent c) (hp.mem_iff.2 (List.mem_map_of_mem hm))
      rw [ent_key (hs c hm) ht hr, hk] at h1
      simp at h1
  | some p =>
    have h1 := List.find?_some hf
    obtain ⟨c, hm, rfl⟩ := List.mem_map.1 (hp.mem_iff.1 (List.mem_of_find?_eq_some hf))
    rw [ent_key (hs c hm) ht hr, decide_eq_true_eq] at h1
    rw [← h1, find_some ho hm]
    rfl
theorem has_of {es : List (Lit × DataW Unit)} {T : List Cell} (hp : es.Perm (T.map ent)) (hs : ∀ c ∈ T, smallC c) {t r : ByteArray} (ht : t.size ≤ maxLen) (hr : r.size ≤ maxLen) :
    Maps.has (.map es) (keyLit (txt t, txt r)) = (findT (txt t, txt r) T).isSome := by
  rw [Maps.has_eq]
  cases hg : findT (txt t, txt r) T with
  | none =>
    rw [Option.isSome_none, Bool.eq_false_iff]
    intro h
    obtain ⟨p, hp1, hp2⟩ := List.any_eq_true.1 h
    obtain ⟨c, hm, rfl⟩ := List.mem_map.1 (hp.mem_iff.1 hp1)
    rw [ent_key (hs c hm) ht hr, decide_eq_true_eq] at hp2
    exact find_none hg c hm hp2
  | some c =>
    obtain ⟨hm, hk⟩ := find_mem hg
    rw [Option.isSome_some]
    exact List.any_eq_true.2 ⟨ent c, hp.mem_iff.2 (List.mem_map_of_mem hm), by rw [ent_key (hs c hm) ht hr, hk]; simp⟩
theorem mapAt.look {w : World} {b n : Nat} {T : List Cell} (h : mapAt w b n T) {t r : ByteArray} (ht : t.size ≤ maxLen) (hr : r.size ≤ maxLen) :
    (Instr.lookup 68 (.map (some b)) (.agg #[.string t, .string r]) false).run Tryz.prog w = .ok (.agg (cellA ((findT (txt t, txt r) T).getD zeroC))) w := by
  obtain ⟨es, hown, hp⟩ := h.own
  obtain ⟨v, ps, hrun, hv⟩ := hown.lookup (t := 68) (e := 152) lawA Tryz.underlying68 (zeroCell w) (cellR_mk zeroC) (key_of t r ht hr)
  rw [atKey_of hp h.once h.small ht hr] at hv
  obtain ⟨c, rfl, hy⟩ := cellR_inv hv
  rw [hrun]
  have e : cellD c = cellD ((findT (txt t, txt r) T).getD zeroC) := by
    have := (congrArg Prod.fst hy).symm
    dsimp only at this
    rw [this]
    cases findT (txt t, txt r) T <;> rfl
  rw [cellD_inj e]
theorem mapAt.look_ok {w : World} {b n : Nat} {T : List Cell} (h : mapAt w b n T) {t r : ByteArray} (ht : t.size ≤ maxLen) (hr : r.size ≤ maxLen) :
    (Instr.lookup 68 (.map (some b)) (.agg #[.string t, .string r]) true).run Tryz.prog w = .ok (.tuple #[.agg (cellA ((findT (txt t, txt r) T).getD zeroC)), .bool (findT (txt t, txt r) T).isSome]) w := by
  obtain ⟨es, hown, hp⟩ := h.own
  obtain ⟨v, ps, hrun, hv⟩ := hown.look_ok (t := 68) (e := 152) lawA Tryz.underlying68 (zeroCell w) (cellR_mk zeroC) (key_of t r ht hr)
  rw [atKey_of hp h.once h.small ht hr] at hv
  obtain ⟨c, rfl, hy⟩ := cellR_inv hv
  rw [hrun, has_of hp h.small ht hr]
  have e : cellD c = cellD ((findT (txt t, txt r) T).getD zeroC) := by
    have := (congrArg Prod.fst hy).symm
    dsimp only at this
    rw [this]
    cases findT (txt t, txt r) T <;> rfl
  rw [cellD_inj e]
theorem filter_ent {T : List Cell} (hs : ∀ c ∈ T, smallC c) {t r : ByteArray} (ht : t.size ≤ maxLen) (hr : r.size ≤ maxLen) : (T.map ent).filter (fun p => !p.1.sameKey (keyLit (txt t, txt r))) = (delT (txt t, txt r) T).map ent := by
  unfold delT
  rw [List.filter_map]
  congr 1
  apply List.filter_congr
  intro c hc
  simp only [Function.comp]
  rw [ent_key (hs c hc) ht hr]
theorem mapAt.put {w : World} {b n : Nat} {T : List Cell} (h : mapAt w b n T) (c : Cell) (hc : smallC c) (hn : n < maxLen) :
    ∃ w', (Instr.mapUpdate 68 (.map (some b)) (.agg #[.string c.table, .string c.row]) (.agg (cellA c))).run Tryz.prog w = .ok () w' ∧ mapAt w' b (n + 1) (putT c T) ∧ w.grownBy w' (some b) := by
  obtain ⟨es, hown, hp⟩ := h.own
  obtain ⟨w', hrun, hown', hg⟩ := hown.update (t := 68) (e := 152) lawA Tryz.underlying68 hn (key_of c.table c.row hc.1 hc.2) (cellR_mk c)
  refine ⟨w', hrun, ⟨⟨_, hown', ?_⟩, h.once.put c, ?_⟩, hg⟩
  · refine (insert_perm _ _).trans ?_
    unfold putT
    rw [List.map_cons]
    refine List.Perm.cons _ ?_
    refine (hp.filter _).trans ?_
    rw [filter_ent h.small hc.1 hc.2]
    exact .refl _
  · intro d hd
    rcases List.mem_cons.1 hd with rfl | hd
    · exact hc
    · exact h.small d (List.mem_filter.1 hd).1
theorem mapAt.del {w : World} {b n : Nat} {T : List Cell} (h : mapAt w b n T) {t r : ByteArray} (ht : t.size ≤ maxLen) (hr : r.size ≤ maxLen) (ty : TypeId) :
    ∃ w', (Builtin.delete_ #[68, 197] ty #[.map (some b), .agg #[.string t, .string r]]).run Tryz.prog w = .ok (.tuple #[]) w' ∧ mapAt w' b n (delT (txt t, txt r) T) ∧ w.grownBy w' (some b) := by
  obtain ⟨es, hown, hp⟩ := h.own
  obtain ⟨w', hrun, hown', ht'⟩ := hown.drop (t := 68) (e := 152) lawA Tryz.underlying68 (key_of t r ht hr) ty
  refine ⟨w', hrun, ⟨⟨_, hown', ?_⟩, h.once.filter _, fun d hd => h.small d (List.mem_filter.1 hd).1⟩, ht'.grown⟩
  refine (hp.filter _).trans ?_
  rw [filter_ent h.small ht hr]
theorem mapAt.made (w : World) : mapAt (w.alloc (.map #[] 0)) w.heap.size 0 [] :=
  ⟨⟨[], World.ownsMap_made w _ _ _, .refl _⟩, List.Pairwise.nil, fun _ h => by cases h⟩
theorem mapAt.kept {w w' : World} {b n : Nat} {T : List Cell} {row : Option Nat} (h : mapAt w b n T) (hg : w.grownBy w' row) (hne : some b ≠ row) : mapAt w' b n T := by
  obtain ⟨es, hown, hp⟩ := h.own
  exact ⟨⟨es, hown.kept hg hne, hp⟩, h.once, h.small⟩
theorem mapAt.lt {w : World} {b n : Nat} {T : List Cell} (h : mapAt w b n T) : b < w.heap.size := by
  obtain ⟨es, hown, hp⟩ := h.own
  exact hown.lt
theorem mapAt.block {w : World} {b n : Nat} {T : List Cell} (h : mapAt w b n T) : ∃ es ck, w.heap[b]? = some (.map es ck) := by
  obtain ⟨es, ⟨es', ck, hb, _⟩, hp⟩ := h.own
  exact ⟨es', ck, hb⟩
theorem mapAt.mono {w : World} {b n n' : Nat} {T : List Cell} (h : mapAt w b n T) (hn : n ≤ n') : mapAt w b n' T := by
  obtain ⟨es, hown, hp⟩ := h.own
  exact ⟨⟨es, hown.mono hn, hp⟩, h.once, h.small⟩
theorem mapAt.len_le {w : World} {b n : Nat} {T : List Cell} (h : mapAt w b n T) : T.length ≤ n := by
  obtain ⟨es, hown, hp⟩ := h.own
  have := hown.size_le
  rw [Maps.size_eq, hp.length_eq, List.length_map] at this
  exact this
end Go.Proofs.YtnkmckdefiblhaaGreatDoor
