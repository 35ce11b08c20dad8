/- A table's map in memory, as rows. -/
import Derived.Test.YtcbcknfhblamfaaGreatDoorProg
import Derived.Test.YtcbcknfhblamfaaGreatDoorCmp
import Derived.Maps.Own
import Derived.Maps.OwnSet
import Derived.Maps.Views
import Derived.Maps.RangeWalk
import Derived.DeepKeys4
namespace Go.Proofs.YtcbcknfhblamfaaGreatDoor
open Go.RowKit Go.WideShapes

theorem keyLaw : WideMaps.KeyLaw Tryz.prog 54 := deep_law_laid (by kernel_rfl) (m := 2) (by omega) (of_decide_eq_true (by kernel_rfl)) (by kernel_rfl) (by rw [Tryz.underlying54])
theorem lawA : Maps.Keyed Tryz.prog 54 := Maps.Keyed.of_law keyLaw
/-- A row's place as a key. -/
def keyLit (k : List UInt8 × List UInt8) : Lit := .string (keyBytes [.string k.1, .string k.2])
set_option maxRecDepth 100000 in
theorem key_of (t r : ByteArray) (ht : t.size ≤ maxLen) (hr : r.size ≤ maxLen) : keyOf Tryz.prog 54 (.agg #[.string t, .string r]) = some (keyLit (txt t, txt r)) := by
  have hk : Tryz.prog.keyType 54 = true := by kernel_rfl
  have hf : (Value.agg #[.string t, .string r]).formed Tryz.prog 54 = true := by
    have hc : Tryz.prog.cellsOf 54 = 2 := by kernel_rfl
    simp [Value.formed, Tryz.underlying54, hc]
  have hn : Tryz.prog.types.size + 1 = (Tryz.prog.types.size - 1) + 1 + 1 := by
    have : Tryz.prog.types.size ≠ 0 := by
      have h : (54 : Nat) < Tryz.prog.types.size := of_decide_eq_true (by kernel_rfl)
      omega
    omega
  have hl : Tryz.prog.keyLits (Tryz.prog.types.size + 1) 54 [.string t, .string r] = some [.string (txt t), .string (txt r)] := by
    have hc : Tryz.prog.cellsOf 54 = 2 := by kernel_rfl
    have hs : Tryz.prog.cellsOf 9 = 1 := by kernel_rfl
    rw [hn]
    generalize Tryz.prog.types.size - 1 = m
    simp [Program.keyLits, Tryz.underlying54, Tryz.underlying9, hc, hs, ht, hr, txt]
  unfold keyOf
  rw [Tryz.underlying54]
  simp only [hk, hf, Bool.and_self, if_true]
  rw [show (Value.agg #[.string t, .string r]).cells.toList = [.string t, .string r] from rfl, hl]
  rfl
theorem keyLit_inj {t r t' r' : ByteArray} (ht : t.size ≤ maxLen) (hr : r.size ≤ maxLen) (ht' : t'.size ≤ maxLen) (hr' : r'.size ≤ maxLen) (h : keyLit (txt t, txt r) = keyLit (txt t', txt r')) : t = t' ∧ r = r' := by
  have h1 := key_of t r ht hr
  have h2 := key_of t' r' ht' hr'
  rw [← h] at h2
  have := lawA.inj h1 h2
  injection this with this
  simp only [Array.mk.injEq, List.cons.injEq, Value.string.injEq, and_true] at this
  exact this
def cellD (c : Cell) : DataW Unit := .agg [.lit (.string (txt c.table)), .lit (.string (txt c.row)), .lit (.string (txt c.subject)), .lit (.string (txt c.value))]
/-- How a row reads. -/
def cellR : Value → Option (DataW Unit × List MemPlace)
  | .agg cs => match cs.toList with
    | [.string a, .string b, .string c, .string d] => some (cellD ⟨a, b, c, d⟩, [])
    | _ => none
  | _ => none
theorem cellR_mk (c : Cell) : cellR (.agg (cellA c)) = some (cellD c, []) := rfl
theorem cellR_inv {v : Value} {y : DataW Unit × List MemPlace} (h : cellR v = some y) : ∃ c, v = .agg (cellA c) ∧ y = (cellD c, []) := by
  unfold cellR at h
  split at h
  · rename_i cs
    split at h
    · rename_i a b c d e
      injection h with h
      refine ⟨⟨a, b, c, d⟩, ?_, h.symm⟩
      have : cs = #[.string a, .string b, .string c, .string d] := by rw [← Array.toList_inj]; exact e
      rw [this]; rfl
    · cases h
  · cases h
theorem cellD_inj {c d : Cell} (h : cellD c = cellD d) : c = d := by
  unfold cellD at h
  simp only [DataW.agg.injEq, List.cons.injEq, DataW.lit.injEq, Lit.string.injEq, and_true] at h
  exact cell_ext (Prod.ext h.1 h.2.1) h.2.2.1 h.2.2.2
theorem zeroCell (w : World) : (zeroValue 44).run Tryz.prog w = .ok (.agg (cellA zeroC)) w := by kernel_rfl
def smallC (c : Cell) : Prop := c.table.size ≤ maxLen ∧ c.row.size ≤ maxLen
def ent (c : Cell) : Lit × DataW Unit := (keyLit (ck c), cellD c)
/-- A map that holds those rows. -/
structure mapAt (w : World) (b n : Nat) (T : List Cell) : Prop where
  own : ∃ es, w.ownsMap Tryz.prog 54 cellR b n (.map es) ∧ es.Perm (T.map ent)
  once : Once T
  small : ∀ c ∈ T, smallC c
theorem sameKey_lit (k k' : List UInt8 × List UInt8) : (keyLit k).sameKey (keyLit k') = true ↔ keyLit k = keyLit k' := by
  unfold keyLit Lit.sameKey
  simp
theorem ent_key {c : Cell} {t r : ByteArray} (hc : smallC c) (ht : t.size ≤ maxLen) (hr : r.size ≤ maxLen) : (ent c).1.sameKey (keyLit (txt t, txt r)) = decide (ck c = (txt t, txt r)) := by
  rw [Bool.eq_iff_iff, decide_eq_true_eq]
  unfold ent
  rw [sameKey_lit]
  constructor
  · intro h
    have := keyLit_inj (t := c.table) (r := c.row) hc.1 hc.2 ht hr h
    unfold ck
    rw [this.1, this.2]
  · intro h; rw [h]
theorem atKey_of {es : List (Lit × DataW Unit)} {T : List Cell} (hp : es.Perm (T.map ent)) (ho : Once T) (hs : ∀ c ∈ T, smallC c) {t r : ByteArray} (ht : t.size ≤ maxLen) (hr : r.size ≤ maxLen) (z : DataW Unit) :
    (DataW.map es).atKey (keyLit (txt t, txt r)) z = match findT (txt t, txt r) T with | some c => cellD c | none => z := by
  unfold DataW.atKey
  dsimp only
  cases hf : es.find? fun p => p.1.sameKey (keyLit (txt t, txt r)) with
  | none =>
    cases hg : findT (txt t, txt r) T with
    | none => rfl
    | some c =>
      obtain ⟨hm, hk⟩ := find_mem hg
      have h1 := List.find?_eq_none.1 hf (ent c) (hp.mem_iff.2 (List.mem_map_of_mem hm))
      rw [ent_key (hs c hm) ht hr, hk] at h1
      simp at h1
  | some p =>
    have h1 := List.find?_some hf
    obtain ⟨c, hm, rfl⟩ := List.mem_map.1 (hp.mem_iff.1 (List.mem_of_find?_eq_some hf))
    rw [ent_key (hs c hm) ht hr, decide_eq_true_eq] at h1
    rw [← h1, find_some ho hm]
    rfl
theorem has_of {es : List (Lit × DataW Unit)} {T : List Cell} (hp : es.Perm (T.map ent)) (hs : ∀ c ∈ T, smallC c) {t r : ByteArray} (ht : t.size ≤ maxLen) (hr : r.size ≤ maxLen) :
    Maps.has (.map es) (keyLit (txt t, txt r)) = (findT (txt t, txt r) T).isSome := by
  rw [Maps.has_eq]
  cases hg : findT (txt t, txt r) T with
  | none =>
    rw [Option.isSome_none, Bool.eq_false_iff]
    intro h
    obtain ⟨p, hp1, hp2⟩ := List.any_eq_true.1 h
    obtain ⟨c, hm, rfl⟩ := List.mem_map.1 (hp.mem_iff.1 hp1)
    rw [ent_key (hs c hm) ht hr, decide_eq_true_eq] at hp2
    exact find_none hg c hm hp2
  | some c =>
    obtain ⟨hm, hk⟩ := find_mem hg
    rw [Option.isSome_some]
    exact List.any_eq_true.2 ⟨ent c, hp.mem_iff.2 (List.mem_map_of_mem hm), by rw [ent_key (hs c hm) ht hr, hk]; simp⟩
theorem mapAt.look {w : World} {b n : Nat} {T : List Cell} (h : mapAt w b n T) {t r : ByteArray} (ht : t.size ≤ maxLen) (hr : r.size ≤ maxLen) :
    (Instr.lookup 28 (.map (some b)) (.agg #[.string t, .string r]) false).run Tryz.prog w = .ok (.agg (cellA ((findT (txt t, txt r) T).getD zeroC))) w := by
  obtain ⟨es, hown, hp⟩ := h.own
  obtain ⟨v, ps, hrun, hv⟩ := hown.lookup (t := 28) (e := 44) lawA Tryz.underlying28 (zeroCell w) (cellR_mk zeroC) (key_of t r ht hr)
  rw [atKey_of hp h.once h.small ht hr] at hv
  obtain ⟨c, rfl, hy⟩ := cellR_inv hv
  rw [hrun]
  have e : cellD c = cellD ((findT (txt t, txt r) T).getD zeroC) := by
    have := (congrArg Prod.fst hy).symm
    dsimp only at this
    rw [this]
    cases findT (txt t, txt r) T <;> rfl
  rw [cellD_inj e]
theorem mapAt.look_ok {w : World} {b n : Nat} {T : List Cell} (h : mapAt w b n T) {t r : ByteArray} (ht : t.size ≤ maxLen) (hr : r.size ≤ maxLen) :
    (Instr.lookup 28 (.map (some b)) (.agg #[.string t, .string r]) true).run Tryz.prog w = .ok (.tuple #[.agg (cellA ((findT (txt t, txt r) T).getD zeroC)), .bool (findT (txt t, txt r) T).isSome]) w := by
  obtain ⟨es, hown, hp⟩ := h.own
  obtain ⟨v, ps, hrun, hv⟩ := hown.look_ok (t := 28) (e := 44) lawA Tryz.underlying28 (zeroCell w) (cellR_mk zeroC) (key_of t r ht hr)
  rw [atKey_of hp h.once h.small ht hr] at hv
  obtain ⟨c, rfl, hy⟩ := cellR_inv hv
  rw [hrun, has_of hp h.small ht hr]
  have e : cellD c = cellD ((findT (txt t, txt r) T).getD zeroC) := by
    have := (congrArg Prod.fst hy).symm
    dsimp only at this
    rw [this]
    cases findT (txt t, txt r) T <;> rfl
  rw [cellD_inj e]
theorem filter_ent {T : List Cell} (hs : ∀ c ∈ T, smallC c) {t r : ByteArray} (ht : t.size ≤ maxLen) (hr : r.size ≤ maxLen) : (T.map ent).filter (fun p => !p.1.sameKey (keyLit (txt t, txt r))) = (delT (txt t, txt r) T).map ent := by
  unfold delT
  rw [List.filter_map]
  congr 1
  apply List.filter_congr
  intro c hc
  simp only [Function.comp]
  rw [ent_key (hs c hc) ht hr]
theorem mapAt.put {w : World} {b n : Nat} {T : List Cell} (h : mapAt w b n T) (c : Cell) (hc : smallC c) (hn : n < maxLen) :
    ∃ w', (Instr.mapUpdate 28 (.map (some b)) (.agg #[.string c.table, .string c.row]) (.agg (cellA c))).run Tryz.prog w = .ok () w' ∧ mapAt w' b (n + 1) (putT c T) ∧ w.grownBy w' (some b) := by
  obtain ⟨es, hown, hp⟩ := h.own
  obtain ⟨w', hrun, hown', hg⟩ := hown.update (t := 28) (e := 44) lawA Tryz.underlying28 hn (key_of c.table c.row hc.1 hc.2) (cellR_mk c)
  refine ⟨w', hrun, ⟨⟨_, hown', ?_⟩, h.once.put c, ?_⟩, hg⟩
  · refine (insert_perm _ _).trans ?_
    unfold putT
    rw [List.map_cons]
    refine List.Perm.cons _ ?_
    refine (hp.filter _).trans ?_
    rw [filter_ent h.small hc.1 hc.2]
    exact .refl _
  · intro d hd
    rcases List.mem_cons.1 hd with rfl | hd
    · exact hc
    · exact h.small d (List.mem_filter.1 hd).1
theorem mapAt.del {w : World} {b n : Nat} {T : List Cell} (h : mapAt w b n T) {t r : ByteArray} (ht : t.size ≤ maxLen) (hr : r.size ≤ maxLen) (ty : TypeId) :
    ∃ w', (Builtin.delete_ #[28, 54] ty #[.map (some b), .agg #[.string t, .string r]]).run Tryz.prog w = .ok (.tuple #[]) w' ∧ mapAt w' b n (delT (txt t, txt r) T) ∧ w.grownBy w' (some b) := by
  obtain ⟨es, hown, hp⟩ := h.own
  obtain ⟨w', hrun, hown', ht'⟩ := hown.drop (t := 28) (e := 44) lawA Tryz.underlying28 (key_of t r ht hr) ty
  refine ⟨w', hrun, ⟨⟨_, hown', ?_⟩, h.once.filter _, fun d hd => h.small d (List.mem_filter.1 hd).1⟩, ht'.grown⟩
  refine (hp.filter _).trans ?_
  rw [filter_ent h.small ht hr]
theorem mapAt.made (w : World) : mapAt (w.alloc (.map #[] 0)) w.heap.size 0 [] :=
  ⟨⟨[], World.ownsMap_made w _ _ _, .refl _⟩, List.Pairwise.nil, fun _ h => by cases h⟩
theorem mapAt.kept {w w' : World} {b n : Nat} {T : List Cell} {row : Option Nat} (h : mapAt w b n T) (hg : w.grownBy w' row) (hne : some b ≠ row) : mapAt w' b n T := by
  obtain ⟨es, hown, hp⟩ := h.own
  exact ⟨⟨es, hown.kept hg hne, hp⟩, h.once, h.small⟩
theorem mapAt.lt {w : World} {b n : Nat} {T : List Cell} (h : mapAt w b n T) : b < w.heap.size := by
  obtain ⟨es, hown, hp⟩ := h.own
  exact hown.lt
theorem mapAt.block {w : World} {b n : Nat} {T : List Cell} (h : mapAt w b n T) : ∃ es ck, w.heap[b]? = some (.map es ck) := by
  obtain ⟨es, ⟨es', ck, hb, _⟩, hp⟩ := h.own
  exact ⟨es', ck, hb⟩
theorem mapAt.mono {w : World} {b n n' : Nat} {T : List Cell} (h : mapAt w b n T) (hn : n ≤ n') : mapAt w b n' T := by
  obtain ⟨es, hown, hp⟩ := h.own
  exact ⟨⟨es, hown.mono hn, hp⟩, h.once, h.small⟩
theorem mapAt.len_le {w : World} {b n : Nat} {T : List Cell} (h : mapAt w b n T) : T.length ≤ n := by
  obtain ⟨es, hown, hp⟩ := h.own
  have := hown.size_le
  rw [Maps.size_eq, hp.length_eq, List.length_map] at this
  exact this
end Go.Proofs.YtcbcknfhblamfaaGreatDoor
