/- Byte slices by their cells alone: '[]byte(s)' and what is appended to it; a part of one as a string. -/
import Derived.Test.YtnmpchojhbmbmaaGreatDoorProg
import Derived.Test.YtnmpchojhbmbmaaGreatDoorBytes
import Derived.Laws.IdiomCopy
namespace Go.Proofs.YtnmpchojhbmbmaaGreatDoor
open Go.RowKit

/-- The slice 'v' has a block of its own, from 'base' on, that may be written as far as it has room, and holds the bytes 'l'. -/
def ownsC (w : World) (base : Nat) (v : Value) (l : List UInt8) : Prop :=
  (v = .slice none 0 0 ∧ l = []) ∨
  ∃ g cap, v = .slice (some ⟨g, 0, none⟩) l.length cap ∧ base ≤ g ∧ g < w.heap.size ∧ l.length ≤ cap ∧ cap ≤ maxLen ∧
    (∀ j, j < cap → (w.cell? ⟨g, j, none⟩).isSome = true) ∧ (∀ j, j < cap → w.frozen? ⟨g, j, none⟩ = false) ∧ (∀ j u, (B8 l)[j]? = some u → w.cell? ⟨g, j, none⟩ = some u)
theorem ownsC_nil (w : World) (base : Nat) : ownsC w base (.slice none 0 0) [] := .inl ⟨rfl, rfl⟩
theorem add_flat (g j : Nat) : (⟨g, 0, none⟩ : Addr).add j = ⟨g, j, none⟩ := by unfold Addr.add; split <;> simp_all
theorem add_flat' (g k j : Nat) : (⟨g, k, none⟩ : Addr).add j = ⟨g, k + j, none⟩ := by unfold Addr.add; split <;> simp_all
/-- What lies in other blocks may change. -/
theorem ownsC_kept {w w' : World} {base : Nat} {v : Value} {l : List UInt8} {r : Option Nat} (h : ownsC w base v l) (hg : w.grownBy w' r) (hr : ∀ k, r = some k → v.ownBlock ≠ some k) : ownsC w' base v l := by
  rcases h with h | ⟨g, cap, rfl, hb, hlt, hc, hm, h1, h2, h3⟩
  · exact .inl h
  · have e : w'.heap[g]? = w.heap[g]? := hg.block g hlt (fun e => hr g e.symm rfl)
    refine .inr ⟨g, cap, rfl, hb, Nat.lt_of_lt_of_le hlt hg.size, hc, hm, fun j hj => ?_, fun j hj => ?_, fun j u hu => ?_⟩
    · rw [cell_in, e, ← cell_in]; exact h1 j hj
    · rw [frozen_in, e, ← frozen_in]; exact h2 j hj
    · rw [cell_in, e, ← cell_in]; exact h3 j u hu
theorem ownsC_base {w : World} {base : Nat} {v : Value} {l : List UInt8} (h : ownsC w base v l) : ∀ g, v.ownBlock = some g → base ≤ g := by
  rcases h with ⟨rfl, _⟩ | ⟨g, cap, rfl, hb, _⟩
  · intro g hg; simp [Value.ownBlock] at hg
  · intro g' hg; simp only [Value.ownBlock, Option.some.injEq] at hg; omega
theorem ownsC_weak {w : World} {base b' : Nat} {v : Value} {l : List UInt8} (h : ownsC w base v l) (hb' : b' ≤ base) : ownsC w b' v l := by
  rcases h with h | ⟨g, cap, rfl, hb, h⟩
  · exact .inl h
  · exact .inr ⟨g, cap, rfl, by omega, h⟩
/-- A row that was just laid. -/
theorem ownsC_row {w : World} {base g cap : Nat} {l : List UInt8} {sp : Array Value} {t : TypeId} {fz : Nat × Nat} (h : w.heap[g]? = some (.cells (rowB l sp) t fz)) (hb : base ≤ g) (hcap : (rowB l sp).size = cap) (hm : cap ≤ maxLen) (hf : cap ≤ fz.1 ∨ fz.2 = 0) :
    ownsC w base (.slice (some ⟨g, 0, none⟩) l.length cap) l := by
  have hlc : l.length ≤ cap := by rw [← hcap, rowB_size]; omega
  refine .inr ⟨g, cap, rfl, hb, lt_of_heap h, hlc, hm, fun j hj => ?_, fun j hj => ?_, fun j u hu => ?_⟩
  · rw [cell_in, h]; simp [cellIn, Array.getElem?_eq_getElem (show j < (rowB l sp).size by omega)]
  · rw [frozen_in, h]; simp [frozenIn]; omega
  · rw [cell_in, h]
    obtain ⟨b, hb1, rfl⟩ := B8_get hu
    obtain ⟨hj, rfl⟩ := List.getElem?_eq_some_iff.1 hb1
    simp [cellIn, rowB_get hj]
/-- '[]byte(s)' owns its bytes. -/
theorem bytes_own (w : World) (s : ByteArray) (hs : s.size ≤ 140737488355328) : ∃ sp, (convert 9 92 (.string s)).run Tryz.prog w =
    .ok (.slice (some ⟨w.heap.size, 0, none⟩) s.size (grownCap w s.size 0 5)) (w.drew.alloc (.cells (rowB s.data.toList sp) 5 ((rowB s.data.toList sp).size, (rowB s.data.toList sp).size + 1))) ∧
    ownsC (w.drew.alloc (.cells (rowB s.data.toList sp) 5 ((rowB s.data.toList sp).size, (rowB s.data.toList sp).size + 1))) w.heap.size (.slice (some ⟨w.heap.size, 0, none⟩) s.size (grownCap w s.size 0 5)) s.data.toList := by
  refine ⟨Array.replicate (grownCap w s.size 0 5 - s.size) (.int .u8 0), ?_⟩
  have e : bytesRow s (grownCap w s.size 0 5) = rowB s.data.toList (Array.replicate (grownCap w s.size 0 5 - s.size) (.int .u8 0)) := by
    unfold bytesRow rowB
    congr 1
    rw [← Array.toList_inj]; simp [B8]
  have hge := grownCap_ge w s.size 0 5
  have hle := grownCap_le_maxLen w s.size 0 5 (by unfold maxLen; omega)
  have hl : s.data.toList.length = s.size := by rw [Array.length_toList]; rfl
  have hsz : (rowB s.data.toList (Array.replicate (grownCap w s.size 0 5 - s.size) (.int .u8 0))).size = grownCap w s.size 0 5 := by
    rw [rowB_size, hl, Array.size_replicate]; omega
  constructor
  · rw [← e]
    exact run_bytes_of_string w 9 92 5 s Tryz.underlying9 Tryz.underlying92 Tryz.underlying5
  · have h := ownsC_row (base := w.heap.size) (heap_alloc_at w.drew (.cells (rowB s.data.toList (Array.replicate (grownCap w s.size 0 5 - s.size) (.int .u8 0))) 5 ((rowB s.data.toList (Array.replicate (grownCap w s.size 0 5 - s.size) (.int .u8 0))).size, (rowB s.data.toList (Array.replicate (grownCap w s.size 0 5 - s.size) (.int .u8 0))).size + 1))) (Nat.le_refl _) hsz hle (by left; simp only; omega)
    rw [hl] at h
    exact h
/-- 'string(v)' -/
theorem string_of_own {w : World} {base : Nat} {v : Value} {l : List UInt8} (h : ownsC w base v l) : (convert 92 9 v).run Tryz.prog w = .ok (.string ⟨l.toArray⟩) w := by
  rcases h with ⟨rfl, rfl⟩ | ⟨g, cap, rfl, hb, hlt, hc, hm, h1, h2, h3⟩
  · exact run_convert_bytes_nil w 92 5 Tryz.underlying92 Tryz.underlying5 0 0 9 Tryz.underlying9
  · refine run_convert_bytes_back w 92 9 5 ⟨g, 0, none⟩ cap l Tryz.underlying92 Tryz.underlying5 Tryz.underlying9 ?_
    intro j hj
    rw [add_flat]
    exact h3 j _ (by simp [B8, List.getElem?_eq_getElem hj])
/-- 'string(v[i:i+n])' -/
theorem string_of_part {w : World} {base g cap len i n c : Nat} {l : List UInt8} (h : ownsC w base (.slice (some ⟨g, 0, none⟩) len cap) l) (hin : i + n ≤ l.length) :
    (convert 92 9 (.slice (some ⟨g, i, none⟩) n c)).run Tryz.prog w = .ok (.string ⟨((l.drop i).take n).toArray⟩) w := by
  rcases h with ⟨h, _⟩ | ⟨g', cap', h, hb, hlt, hc, hm, h1, h2, h3⟩
  · cases h
  · obtain ⟨rfl, rfl, rfl⟩ : g = g' ∧ len = l.length ∧ cap = cap' := by injection h with a b c; injection a with a; injection a with a; exact ⟨a, b, c⟩
    have hl : ((l.drop i).take n).length = n := by simp; omega
    have := run_convert_bytes_back (P := Tryz.prog) w 92 9 5 ⟨g, i, none⟩ c ((l.drop i).take n) Tryz.underlying92 Tryz.underlying5 Tryz.underlying9 (by
      intro j hj
      rw [add_flat']
      exact h3 (i + j) _ (by simp [B8, List.getElem?_eq_getElem (show i + j < l.length by omega)]))
    rw [hl] at this
    exact this
section
variable {ops : Array Oper} {rest : List Oper} {o : Oper} {a : Act} {w : World} {Q : Exit → Act → World → Prop}
theorem setCells_size (g : Nat) : ∀ (vs : List Value) (o : Nat) (w : World), (w.setCells g o vs).heap.size = w.heap.size
  | [], _, _ => rfl
  | v :: r, o, w => by rw [World.setCells, setCells_size g r]; simp
theorem grown_setCells (g : Nat) : ∀ (vs : List Value) (o : Nat) (w : World), w.grownBy (w.setCells g o vs) (some g)
  | [], _, w => grown_refl w _
  | v :: r, o, w => (grown_setCell w g o v).trans (grown_setCells g r (o + 1) _)
/-- 'append(v, b0, b1, ..)' of bytes that lie in a block of their own, the newest. -/
theorem run_append_own_c (news : List UInt8) (hne : 0 < news.length) (base : Nat) (v : Value) (l : List UInt8) (c ty : Nat) (hown : ownsC w base v l) (hlen : l.length + news.length ≤ 140737488355328) (hbase : base ≤ w.heap.size) :
    ∃ v' w', (Builtin.append_ #[92, 92] ty #[v, .slice (some ⟨w.heap.size, 0, none⟩) news.length c]).run Tryz.prog (w.alloc (.cells (B8 news).toArray 5)) = .ok v' w' ∧
      ownsC w' base v' (l ++ news) ∧ w.grownBy w' v.ownBlock ∧ v' ≠ .slice none 0 0 := by
  obtain ⟨i, hi, hz, hsize, hby⟩ := info_parts info8
  have hnews : ∀ j u, (B8 news)[j]? = some u → (w.alloc (.cells (B8 news).toArray 5)).cell? ((⟨w.heap.size, 0, none⟩ : Addr).add j) = some u := by
    intro j u hj
    rw [add_flat, World.cell?_alloc_new, List.getElem?_toArray]
    exact hj
  have hzs : (Value.int IntKind.u8 0).cells = #[.int .u8 0] := rfl
  have zero_row : ∀ n, Builtin.zeroCells #[.int .u8 0] n = Array.replicate n (.int .u8 0) := by
    intro n
    apply Array.ext
    · simp [Builtin.zeroCells]
    · intro k h1 h2
      simp [Builtin.zeroCells, Nat.mod_one]
  have grown_arm : ∀ (old : Nat), (let w1 := w.alloc (.cells (B8 news).toArray 5)
      let cap := grownCap w1 (l.length + news.length) old 5
      let w2 := w1.drew.alloc (.cells ((B8 l).toArray ++ (B8 news).toArray ++ Builtin.zeroCells (Value.int IntKind.u8 0).cells (cap - (l.length + news.length))) 5)
      ownsC w2 base (.slice (some ⟨w1.heap.size, 0, none⟩) (l.length + news.length) cap) (l ++ news) ∧ w.grownBy w2 v.ownBlock) := by
    intro old w1 cap w2
    have hge := grownCap_ge w1 (l.length + news.length) old 5
    have hle := grownCap_le_maxLen w1 (l.length + news.length) old 5 (by unfold maxLen; omega)
    have e : (B8 l).toArray ++ (B8 news).toArray ++ Builtin.zeroCells (Value.int IntKind.u8 0).cells (cap - (l.length + news.length)) = rowB (l ++ news) (Array.replicate (cap - (l.length + news.length)) (.int .u8 0)) := by
      rw [hzs, zero_row]; unfold rowB; rw [B8_append]; simp
    constructor
    · have h := ownsC_row (base := base) (w := w2) (g := w1.heap.size) (cap := cap) (l := l ++ news) (sp := Array.replicate (cap - (l.length + news.length)) (.int .u8 0)) (t := 5) (fz := (0, 0)) (by rw [← e]; exact heap_alloc_at w1.drew _) (by simp [w1]; omega)
        (by rw [rowB_size, List.length_append, Array.size_replicate]; omega) hle (Or.inr rfl)
      rw [List.length_append] at h
      exact h
    · exact (World.grownBy_alloc w _ _).trans ((⟨rfl, rfl, rfl, Nat.le_refl _, fun _ _ _ => rfl⟩ : w1.grownBy w1.drew _).trans (World.grownBy_alloc w1.drew _ _))
  rcases hown with ⟨rfl, rfl⟩ | ⟨g, cap, rfl, hb, hlt, hc, hm, h1, h2, h3⟩
  · have hr := run_append_nil (P := Tryz.prog) (w.alloc (.cells (B8 news).toArray 5)) 92 ty 5 i (.int .u8 0) Tryz.underlying92 hi hz ⟨w.heap.size, 0, none⟩ news.length c (B8 news) (by rw [B8_length, hsize, Nat.mul_one]) hnews (by omega) (by simp at hlen; omega)
      (by rw [hby]; simp at hlen; omega)
    have hg := grown_arm 0
    simp only [List.length_nil, Nat.zero_add, List.nil_append, B8, List.map_nil, Array.empty_append] at hg hr ⊢
    exact ⟨_, _, hr, by simpa using hg.1, hg.2, by simp⟩
  · have a1 : ∀ j, (w.alloc (.cells (B8 news).toArray 5)).cell? ⟨g, j, none⟩ = w.cell? ⟨g, j, none⟩ := fun j => by rw [cell_in, heap_alloc_old _ _ hlt, ← cell_in]
    have a2 : ∀ j, (w.alloc (.cells (B8 news).toArray 5)).frozen? ⟨g, j, none⟩ = w.frozen? ⟨g, j, none⟩ := fun j => by rw [frozen_in, heap_alloc_old _ _ hlt, ← frozen_in]
    by_cases hroom : l.length + news.length ≤ cap
    · have hf := run_firstCells_some (P := Tryz.prog) (w.alloc (.cells (B8 news).toArray 5)) 1 news.length ⟨w.heap.size, 0, none⟩ news.length c (B8 news) (by rw [B8_length, Nat.mul_one]) hnews
      have hst := run_storeCells_cells (P := Tryz.prog) g l.length (B8 news) 0 (w.alloc (.cells (B8 news).toArray 5)) (fun j hj => by rw [a1]; rw [B8_length] at hj; exact h1 _ (by omega)) (fun j hj => by rw [a2]; rw [B8_length] at hj; exact h2 _ (by omega)) (B8_one news)
      refine ⟨.slice (some ⟨g, 0, none⟩) (l.length + news.length) cap, (w.alloc (.cells (B8 news).toArray 5)).setCells g l.length (B8 news), ?_, ?_, ?_, by simp⟩
      · simp [Builtin.append_, run_underlying Tryz.underlying92, sizeOf, typeInfo, hi, hsize, Builtin.lenOf, hroom, hf, Addr.add_lit, hst]
      · refine .inr ⟨g, cap, by rw [List.length_append], hb, by rw [setCells_size]; simp; omega, by rw [List.length_append]; exact hroom, hm, fun j hj => ?_, fun j hj => ?_, fun j u hu => ?_⟩
        · by_cases hin : l.length ≤ j ∧ j < l.length + news.length
          · obtain ⟨q, rfl⟩ : ∃ q, j = l.length + q := ⟨j - l.length, by omega⟩
            rw [World.cell?_setCells_in g (B8 news) l.length _ (fun q hq => by rw [a1]; rw [B8_length] at hq; exact h1 _ (by omega)) q (by rw [B8_length]; omega)]; rfl
          · rw [World.cell?_setCells_out g (B8 news) l.length _ ⟨g, j, none⟩ (fun _ _ => by rw [B8_length]; simp only; omega), a1]; exact h1 j hj
        · rw [World.frozen?_setCells, a2]; exact h2 j hj
        · rw [B8_append, List.getElem?_append, B8_length] at hu
          split at hu
          · rename_i hjl
            rw [World.cell?_setCells_out g (B8 news) l.length _ ⟨g, j, none⟩ (fun _ _ => by rw [B8_length]; simp only; omega), a1]; exact h3 j u hu
          · obtain ⟨hq, e⟩ := List.getElem?_eq_some_iff.1 hu
            obtain ⟨q, rfl⟩ : ∃ q, j = l.length + q := ⟨j - l.length, by omega⟩
            rw [World.cell?_setCells_in g (B8 news) l.length _ (fun q hq => by rw [a1]; rw [B8_length] at hq; exact h1 _ (by omega)) q (by simpa using hq), ← e]
            simp
      · exact (World.grownBy_alloc w _ _).trans (grown_setCells g _ _ _)
    · have holds : ∀ j u, (B8 l)[j]? = some u → (w.alloc (.cells (B8 news).toArray 5)).cell? ((⟨g, 0, none⟩ : Addr).add j) = some u := fun j u hu => by rw [add_flat, a1]; exact h3 j u hu
      have hr := run_append_grow (P := Tryz.prog) (w.alloc (.cells (B8 news).toArray 5)) 92 ty 5 i (.int .u8 0) Tryz.underlying92 hi hz ⟨g, 0, none⟩ l.length cap (B8 l) (by rw [B8_length, hsize, Nat.mul_one]) holds ⟨w.heap.size, 0, none⟩ news.length c (B8 news) (by rw [B8_length, hsize, Nat.mul_one]) hnews (by omega) (by omega)
        (by rw [hby]; exact growslice_fits (by omega) (by omega))
      have hg := grown_arm cap
      exact ⟨_, _, hr, hg.1, hg.2, by simp⟩
theorem append_own (news : List UInt8) (base : Nat) (v : Value) (l : List UInt8) (s x : Operand) (cs : Array Value)
    (ho : o.op = .call { callee := .builtin .append, args := #[s, x], argTypes := #[92, 92] }) (hgd : o.guard = none) (hs : a.eval s = v) (c n m : Nat)
    (hx : a.eval x = .slice (some ⟨m, 0, none⟩) n c) (hm : m = w.heap.size) (hn : news.length = n) (hne : 0 < news.length) (hcs : cs = (B8 news).toArray) (hown : ownsC w base v l) (hlen : l.length + news.length ≤ 140737488355328) (hbase : base ≤ w.heap.size)
    (h : ∀ v' w', ownsC w' base v' (l ++ news) → w.grownBy w' v.ownBlock → v' ≠ .slice none 0 0 → wpList Tryz.prog ops Q rest (a.put o.dst v') w') : wpList Tryz.prog ops Q (o :: rest) a (w.alloc (.cells cs 5)) := by
  subst hcs hn hm
  refine wpList_plain hgd fun K hK => ?_
  obtain ⟨v', w', hr, h2, h3, h4⟩ := run_append_own_c news hne base v l c o.type hown hlen hbase
  unfold Oper.wp execOp
  simp only [ho, resolve, invoke, builtin, Sem.run_bind, Sem.run_pure, Result.andThen_ok, List.map_toArray, List.map_cons, List.map_nil, hs, hx, hr]
  exact hK _ _ (h v' w' h2 h3 h4)
end
end Go.Proofs.YtnmpchojhbmbmaaGreatDoor
