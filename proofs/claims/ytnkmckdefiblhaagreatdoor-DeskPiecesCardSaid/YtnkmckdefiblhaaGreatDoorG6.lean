/- Byte slices by their cells alone: '[]byte(s)' and what is appended to it; a part of one as a string. · sum.Num: eight bytes of a number. · sum.Hex. · Package stream: what each of its functions computes (the walks), up to 'quarter'. -/
import Derived.Test.YtnkmckdefiblhaaGreatDoorProg
import Derived.Test.YtnkmckdefiblhaaGreatDoorG5
import Derived.Laws.IdiomCopy
import Derived.Test.YtnkmckdefiblhaaGreatDoorG1
namespace Go.Proofs.YtnkmckdefiblhaaGreatDoor
open Go.RowKit

/-- The slice 'v' has a block of its own, from 'base' on, that may be written as far as it has room, and holds the bytes 'l'. -/
def ownsC (w : World) (base : Nat) (v : Value) (l : List UInt8) : Prop :=
  (v = .slice none 0 0 ∧ l = []) ∨
  ∃ g cap, v = .slice (some ⟨g, 0, none⟩) l.length cap ∧ base ≤ g ∧ g < w.heap.size ∧ l.length ≤ cap ∧ cap ≤ maxLen ∧
    (∀ j, j < cap → (w.cell? ⟨g, j, none⟩).isSome = true) ∧ (∀ j, j < cap → w.frozen? ⟨g, j, none⟩ = false) ∧ (∀ j u, (B8 l)[j]? = some u → w.cell? ⟨g, j, none⟩ = some u)
theorem ownsC_nil (w : World) (base : Nat) : ownsC w base (.slice none 0 0) [] := .inl ⟨rfl, rfl⟩
theorem add_flat (g j : Nat) : (⟨g, 0, none⟩ : Addr).add j = ⟨g, j, none⟩ := by unfold Addr.add; split <;> simp_all
theorem add_flat' (g k j : Nat) : (⟨g, k, none⟩ : Addr).add j = ⟨g, k + j, none⟩ := by unfold Addr.add; split <;> simp_all
/-- What lies in other blocks may change. -/
theorem ownsC_kept {w w' : World} {base : Nat} {v : Value} {l : List UInt8} {r : Option Nat} (h : ownsC w base v l) (hg : w.grownBy w' r) (hr : ∀ k, r = some k → v.ownBlock ≠ some k) : ownsC w' base v l := by
  rcases h with h | ⟨g, cap, rfl, hb, hlt, hc, hm, h1, h2, h3⟩
  · exact .inl h
  · have e : w'.heap[g]? = w.heap[g]? := hg.block g hlt (fun e => hr g e.symm rfl)
    refine .inr ⟨g, cap, rfl, hb, Nat.lt_of_lt_of_le hlt hg.size, hc, hm, fun j hj => ?_, fun j hj => ?_, fun j u hu => ?_⟩
    · rw [cell_in, e, ← cell_in]; exact h1 j hj
    · rw [frozen_in, e, ← frozen_in]; exact h2 j hj
    · rw [cell_in, e, ← cell_in]; exact h3 j u hu
theorem ownsC_base {w : World} {base : Nat} {v : Value} {l : List UInt8} (h : ownsC w base v l) : ∀ g, v.ownBlock = some g → base ≤ g := by
  rcases h with ⟨rfl, _⟩ | ⟨g, cap, rfl, hb, _⟩
  · intro g hg; simp [Value.ownBlock] at hg
  · intro g' hg; simp only [Value.ownBlock, Option.some.injEq] at hg; omega
/-- A row that was just laid. -/
theorem ownsC_row {w : World} {base g cap : Nat} {l : List UInt8} {sp : Array Value} {t : TypeId} {fz : Nat × Nat} (h : w.heap[g]? = some (.cells (rowB l sp) t fz)) (hb : base ≤ g) (hcap : (rowB l sp).size = cap) (hm : cap ≤ maxLen) (hf : cap ≤ fz.1 ∨ fz.2 = 0) :
    ownsC w base (.slice (some ⟨g, 0, none⟩) l.length cap) l := by
  have hlc : l.length ≤ cap := by rw [← hcap, rowB_size]; omega
  refine .inr ⟨g, cap, rfl, hb, lt_of_heap h, hlc, hm, fun j hj => ?_, fun j hj => ?_, fun j u hu => ?_⟩
  · rw [cell_in, h]; simp [cellIn, Array.getElem?_eq_getElem (show j < (rowB l sp).size by omega)]
  · rw [frozen_in, h]; simp [frozenIn]; omega
  · rw [cell_in, h]
    obtain ⟨b, hb1, rfl⟩ := B8_get hu
    obtain ⟨hj, rfl⟩ := List.getElem?_eq_some_iff.1 hb1
    simp [cellIn, rowB_get hj]
/-- '[]byte(s)' owns its bytes. -/
theorem bytes_own (w : World) (s : ByteArray) (hs : s.size ≤ 140737488355328) : ∃ sp, (convert 9 35 (.string s)).run Tryz.prog w =
    .ok (.slice (some ⟨w.heap.size, 0, none⟩) s.size (grownCap w s.size 0 5)) (w.drew.alloc (.cells (rowB s.data.toList sp) 5 ((rowB s.data.toList sp).size, (rowB s.data.toList sp).size + 1))) ∧
    ownsC (w.drew.alloc (.cells (rowB s.data.toList sp) 5 ((rowB s.data.toList sp).size, (rowB s.data.toList sp).size + 1))) w.heap.size (.slice (some ⟨w.heap.size, 0, none⟩) s.size (grownCap w s.size 0 5)) s.data.toList := by
  refine ⟨Array.replicate (grownCap w s.size 0 5 - s.size) (.int .u8 0), ?_⟩
  have e : bytesRow s (grownCap w s.size 0 5) = rowB s.data.toList (Array.replicate (grownCap w s.size 0 5 - s.size) (.int .u8 0)) := by
    unfold bytesRow rowB
    congr 1
    rw [← Array.toList_inj]; simp [B8]
  have hge := grownCap_ge w s.size 0 5
  have hle := grownCap_le_maxLen w s.size 0 5 (by unfold maxLen; omega)
  have hl : s.data.toList.length = s.size := by rw [Array.length_toList]; rfl
  have hsz : (rowB s.data.toList (Array.replicate (grownCap w s.size 0 5 - s.size) (.int .u8 0))).size = grownCap w s.size 0 5 := by
    rw [rowB_size, hl, Array.size_replicate]; omega
  constructor
  · rw [← e]
    exact run_bytes_of_string w 9 35 5 s Tryz.underlying9 Tryz.underlying35 Tryz.underlying5
  · have h := ownsC_row (base := w.heap.size) (heap_alloc_at w.drew (.cells (rowB s.data.toList (Array.replicate (grownCap w s.size 0 5 - s.size) (.int .u8 0))) 5 ((rowB s.data.toList (Array.replicate (grownCap w s.size 0 5 - s.size) (.int .u8 0))).size, (rowB s.data.toList (Array.replicate (grownCap w s.size 0 5 - s.size) (.int .u8 0))).size + 1))) (Nat.le_refl _) hsz hle (by left; simp only; omega)
    rw [hl] at h
    exact h
/-- 'string(v)' -/
theorem string_of_own {w : World} {base : Nat} {v : Value} {l : List UInt8} (h : ownsC w base v l) : (convert 35 9 v).run Tryz.prog w = .ok (.string ⟨l.toArray⟩) w := by
  rcases h with ⟨rfl, rfl⟩ | ⟨g, cap, rfl, hb, hlt, hc, hm, h1, h2, h3⟩
  · exact run_convert_bytes_nil w 35 5 Tryz.underlying35 Tryz.underlying5 0 0 9 Tryz.underlying9
  · refine run_convert_bytes_back w 35 9 5 ⟨g, 0, none⟩ cap l Tryz.underlying35 Tryz.underlying5 Tryz.underlying9 ?_
    intro j hj
    rw [add_flat]
    exact h3 j _ (by simp [B8, List.getElem?_eq_getElem hj])
/-- 'string(v[i:i+n])' -/
theorem string_of_part {w : World} {base g cap len i n c : Nat} {l : List UInt8} (h : ownsC w base (.slice (some ⟨g, 0, none⟩) len cap) l) (hin : i + n ≤ l.length) :
    (convert 35 9 (.slice (some ⟨g, i, none⟩) n c)).run Tryz.prog w = .ok (.string ⟨((l.drop i).take n).toArray⟩) w := by
  rcases h with ⟨h, _⟩ | ⟨g', cap', h, hb, hlt, hc, hm, h1, h2, h3⟩
  · cases h
  · obtain ⟨rfl, rfl, rfl⟩ : g = g' ∧ len = l.length ∧ cap = cap' := by injection h with a b c; injection a with a; injection a with a; exact ⟨a, b, c⟩
    have hl : ((l.drop i).take n).length = n := by simp; omega
    have := run_convert_bytes_back (P := Tryz.prog) w 35 9 5 ⟨g, i, none⟩ c ((l.drop i).take n) Tryz.underlying35 Tryz.underlying5 Tryz.underlying9 (by
      intro j hj
      rw [add_flat']
      exact h3 (i + j) _ (by simp [B8, List.getElem?_eq_getElem (show i + j < l.length by omega)]))
    rw [hl] at this
    exact this
section
variable {ops : Array Oper} {rest : List Oper} {o : Oper} {a : Act} {w : World} {Q : Exit → Act → World → Prop}
theorem setCells_size (g : Nat) : ∀ (vs : List Value) (o : Nat) (w : World), (w.setCells g o vs).heap.size = w.heap.size
  | [], _, _ => rfl
  | v :: r, o, w => by rw [World.setCells, setCells_size g r]; simp
theorem grown_setCells (g : Nat) : ∀ (vs : List Value) (o : Nat) (w : World), w.grownBy (w.setCells g o vs) (some g)
  | [], _, w => grown_refl w _
  | v :: r, o, w => (grown_setCell w g o v).trans (grown_setCells g r (o + 1) _)
/-- 'append(v, b0, b1, ..)' of bytes that lie in a block of their own, the newest. -/
theorem run_append_own_c (news : List UInt8) (hne : 0 < news.length) (base : Nat) (v : Value) (l : List UInt8) (c ty : Nat) (hown : ownsC w base v l) (hlen : l.length + news.length ≤ 140737488355328) (hbase : base ≤ w.heap.size) :
    ∃ v' w', (Builtin.append_ #[35, 35] ty #[v, .slice (some ⟨w.heap.size, 0, none⟩) news.length c]).run Tryz.prog (w.alloc (.cells (B8 news).toArray 5)) = .ok v' w' ∧
      ownsC w' base v' (l ++ news) ∧ w.grownBy w' v.ownBlock ∧ v' ≠ .slice none 0 0 := by
  obtain ⟨i, hi, hz, hsize, hby⟩ := info_parts info8
  have hnews : ∀ j u, (B8 news)[j]? = some u → (w.alloc (.cells (B8 news).toArray 5)).cell? ((⟨w.heap.size, 0, none⟩ : Addr).add j) = some u := by
    intro j u hj
    rw [add_flat, World.cell?_alloc_new, List.getElem?_toArray]
    exact hj
  have hzs : (Value.int IntKind.u8 0).cells = #[.int .u8 0] := rfl
  have zero_row : ∀ n, Builtin.zeroCells #[.int .u8 0] n = Array.replicate n (.int .u8 0) := by
    intro n
    apply Array.ext
    · simp [Builtin.zeroCells]
    · intro k h1 h2
      simp [Builtin.zeroCells, Nat.mod_one]
  have grown_arm : ∀ (old : Nat), (let w1 := w.alloc (.cells (B8 news).toArray 5)
      let cap := grownCap w1 (l.length + news.length) old 5
      let w2 := w1.drew.alloc (.cells ((B8 l).toArray ++ (B8 news).toArray ++ Builtin.zeroCells (Value.int IntKind.u8 0).cells (cap - (l.length + news.length))) 5)
      ownsC w2 base (.slice (some ⟨w1.heap.size, 0, none⟩) (l.length + news.length) cap) (l ++ news) ∧ w.grownBy w2 v.ownBlock) := by
    intro old w1 cap w2
    have hge := grownCap_ge w1 (l.length + news.length) old 5
    have hle := grownCap_le_maxLen w1 (l.length + news.length) old 5 (by unfold maxLen; omega)
    have e : (B8 l).toArray ++ (B8 news).toArray ++ Builtin.zeroCells (Value.int IntKind.u8 0).cells (cap - (l.length + news.length)) = rowB (l ++ news) (Array.replicate (cap - (l.length + news.length)) (.int .u8 0)) := by
      rw [hzs, zero_row]; unfold rowB; rw [B8_append]; simp
    constructor
    · have h := ownsC_row (base := base) (w := w2) (g := w1.heap.size) (cap := cap) (l := l ++ news) (sp := Array.replicate (cap - (l.length + news.length)) (.int .u8 0)) (t := 5) (fz := (0, 0)) (by rw [← e]; exact heap_alloc_at w1.drew _) (by simp [w1]; omega)
        (by rw [rowB_size, List.length_append, Array.size_replicate]; omega) hle (Or.inr rfl)
      rw [List.length_append] at h
      exact h
    · exact (World.grownBy_alloc w _ _).trans ((⟨rfl, rfl, rfl, Nat.le_refl _, fun _ _ _ => rfl⟩ : w1.grownBy w1.drew _).trans (World.grownBy_alloc w1.drew _ _))
  rcases hown with ⟨rfl, rfl⟩ | ⟨g, cap, rfl, hb, hlt, hc, hm, h1, h2, h3⟩
  · have hr := run_append_nil (P := Tryz.prog) (w.alloc (.cells (B8 news).toArray 5)) 35 ty 5 i (.int .u8 0) Tryz.underlying35 hi hz ⟨w.heap.size, 0, none⟩ news.length c (B8 news) (by rw [B8_length, hsize, Nat.mul_one]) hnews (by omega) (by simp at hlen; omega)
      (by rw [hby]; simp at hlen; omega)
    have hg := grown_arm 0
    simp only [List.length_nil, Nat.zero_add, List.nil_append, B8, List.map_nil, Array.empty_append] at hg hr ⊢
    exact ⟨_, _, hr, by simpa using hg.1, hg.2, by simp⟩
  · have a1 : ∀ j, (w.alloc (.cells (B8 news).toArray 5)).cell? ⟨g, j, none⟩ = w.cell? ⟨g, j, none⟩ := fun j => by rw [cell_in, heap_alloc_old _ _ hlt, ← cell_in]
    have a2 : ∀ j, (w.alloc (.cells (B8 news).toArray 5)).frozen? ⟨g, j, none⟩ = w.frozen? ⟨g, j, none⟩ := fun j => by rw [frozen_in, heap_alloc_old _ _ hlt, ← frozen_in]
    by_cases hroom : l.length + news.length ≤ cap
    · have hf := run_firstCells_some (P := Tryz.prog) (w.alloc (.cells (B8 news).toArray 5)) 1 news.length ⟨w.heap.size, 0, none⟩ news.length c (B8 news) (by rw [B8_length, Nat.mul_one]) hnews
      have hst := run_storeCells_cells (P := Tryz.prog) g l.length (B8 news) 0 (w.alloc (.cells (B8 news).toArray 5)) (fun j hj => by rw [a1]; rw [B8_length] at hj; exact h1 _ (by omega)) (fun j hj => by rw [a2]; rw [B8_length] at hj; exact h2 _ (by omega)) (B8_one news)
      refine ⟨.slice (some ⟨g, 0, none⟩) (l.length + news.length) cap, (w.alloc (.cells (B8 news).toArray 5)).setCells g l.length (B8 news), ?_, ?_, ?_, by simp⟩
      · simp [Builtin.append_, run_underlying Tryz.underlying35, sizeOf, typeInfo, hi, hsize, Builtin.lenOf, hroom, hf, Addr.add_lit, hst]
      · refine .inr ⟨g, cap, by rw [List.length_append], hb, by rw [setCells_size]; simp; omega, by rw [List.length_append]; exact hroom, hm, fun j hj => ?_, fun j hj => ?_, fun j u hu => ?_⟩
        · by_cases hin : l.length ≤ j ∧ j < l.length + news.length
          · obtain ⟨q, rfl⟩ : ∃ q, j = l.length + q := ⟨j - l.length, by omega⟩
            rw [World.cell?_setCells_in g (B8 news) l.length _ (fun q hq => by rw [a1]; rw [B8_length] at hq; exact h1 _ (by omega)) q (by rw [B8_length]; omega)]; rfl
          · rw [World.cell?_setCells_out g (B8 news) l.length _ ⟨g, j, none⟩ (fun _ _ => by rw [B8_length]; simp only; omega), a1]; exact h1 j hj
        · rw [World.frozen?_setCells, a2]; exact h2 j hj
        · rw [B8_append, List.getElem?_append, B8_length] at hu
          split at hu
          · rename_i hjl
            rw [World.cell?_setCells_out g (B8 news) l.length _ ⟨g, j, none⟩ (fun _ _ => by rw [B8_length]; simp only; omega), a1]; exact h3 j u hu
          · obtain ⟨hq, e⟩ := List.getElem?_eq_some_iff.1 hu
            obtain ⟨q, rfl⟩ : ∃ q, j = l.length + q := ⟨j - l.length, by omega⟩
            rw [World.cell?_setCells_in g (B8 news) l.length _ (fun q hq => by rw [a1]; rw [B8_length] at hq; exact h1 _ (by omega)) q (by simpa using hq), ← e]
            simp
      · exact (World.grownBy_alloc w _ _).trans (grown_setCells g _ _ _)
    · have holds : ∀ j u, (B8 l)[j]? = some u → (w.alloc (.cells (B8 news).toArray 5)).cell? ((⟨g, 0, none⟩ : Addr).add j) = some u := fun j u hu => by rw [add_flat, a1]; exact h3 j u hu
      have hr := run_append_grow (P := Tryz.prog) (w.alloc (.cells (B8 news).toArray 5)) 35 ty 5 i (.int .u8 0) Tryz.underlying35 hi hz ⟨g, 0, none⟩ l.length cap (B8 l) (by rw [B8_length, hsize, Nat.mul_one]) holds ⟨w.heap.size, 0, none⟩ news.length c (B8 news) (by rw [B8_length, hsize, Nat.mul_one]) hnews (by omega) (by omega)
        (by rw [hby]; exact growslice_fits (by omega) (by omega))
      have hg := grown_arm cap
      exact ⟨_, _, hr, hg.1, hg.2, by simp⟩
theorem append_own (news : List UInt8) (base : Nat) (v : Value) (l : List UInt8) (s x : Operand) (cs : Array Value)
    (ho : o.op = .call { callee := .builtin .append, args := #[s, x], argTypes := #[35, 35] }) (hgd : o.guard = none) (hs : a.eval s = v) (c n m : Nat)
    (hx : a.eval x = .slice (some ⟨m, 0, none⟩) n c) (hm : m = w.heap.size) (hn : news.length = n) (hne : 0 < news.length) (hcs : cs = (B8 news).toArray) (hown : ownsC w base v l) (hlen : l.length + news.length ≤ 140737488355328) (hbase : base ≤ w.heap.size)
    (h : ∀ v' w', ownsC w' base v' (l ++ news) → w.grownBy w' v.ownBlock → v' ≠ .slice none 0 0 → wpList Tryz.prog ops Q rest (a.put o.dst v') w') : wpList Tryz.prog ops Q (o :: rest) a (w.alloc (.cells cs 5)) := by
  subst hcs hn hm
  refine wpList_plain hgd fun K hK => ?_
  obtain ⟨v', w', hr, h2, h3, h4⟩ := run_append_own_c news hne base v l c o.type hown hlen hbase
  unfold Oper.wp execOp
  simp only [ho, resolve, invoke, builtin, Sem.run_bind, Sem.run_pure, Result.andThen_ok, List.map_toArray, List.map_cons, List.map_nil, hs, hx, hr]
  exact hK _ _ (h v' w' h2 h3 h4)
end
end Go.Proofs.YtnkmckdefiblhaaGreatDoor
namespace Go.Proofs.YtnkmckdefiblhaaGreatDoor
open Go.RowKit

/-- Byte number k of a number, the least first. -/
def byteOf (n : Int) (k : Nat) : UInt8 := UInt8.ofNat (n % 18446744073709551616 / 2 ^ (8 * k)).toNat
theorem byteOf_val (n : Int) (k : Nat) : ((byteOf n k).toNat : Int) = n % 18446744073709551616 / 2 ^ (8 * k) % 256 := by
  unfold byteOf
  rw [UInt8.toNat_ofNat']
  have h : 0 ≤ n % 18446744073709551616 / 2 ^ (8 * k) := Int.ediv_nonneg (Int.emod_nonneg _ (by decide)) (by exact_mod_cast Nat.zero_le _)
  omega
/-- The first k of them, the greatest first. -/
def numTo (n : Int) (k : Nat) : List UInt8 := (List.range k).map fun j => byteOf n (7 - j)
theorem numTo_succ (n : Int) (k : Nat) : numTo n (k + 1) = numTo n k ++ [byteOf n (7 - k)] := by simp [numTo, List.range_succ]
theorem numTo_length (n : Int) (k : Nat) : (numTo n k).length = k := by simp [numTo]
def numB (n : Int) : List UInt8 := numTo n 8

set_option maxRecDepth 100000 in
set_option maxHeartbeats 1000000 in
theorem num_any (n : Int) (w : World) :
    Calls Tryz.prog 25 #[.int .i64 n] w fun r w' => r = .returned (.string ⟨(numB n).toArray⟩) ∧ ∃ x, w' = ext w x := by
  go_enter Tryz.func25, Tryz.ntmps25
  go_wp2_with fail
  go_loopw [4, 3] (fun i v wr => ∃ k : Nat, k ≤ 8 ∧ i = .int .i64 (7 - k) ∧ Hid (ownsC wr w.heap.size v (numTo n k)) ∧ Hid (Below w.heap.size w wr)) (fun i _ _ => (intOf i + 1).toNat)
  case atStart => exact ⟨0, by omega, rfl, Lib.hid (ownsC_nil _ _), Lib.hid (Below.refl _ _)⟩
  case round =>
    obtain ⟨k, hk8, rfl, H, B⟩ := hrel
    by_cases hlt : k < 8
    · have hge : (0 : Int) ≤ 7 - k := by omega
      have hv : Hid (#[Value.int .u8 (IntKind.u64.wrap n / 2 ^ (8 * (7 - k)) % 256)] = (B8 [byteOf n (7 - k)]).toArray) := by
        apply Lib.hid; simp only [B8, List.map_cons, List.map_nil, byteOf_val]; rw [IntKind.wrap_u64]
      go_wp2_with (at_builtin; refine append_own [byteOf n (7 - k)] w.heap.size _ (numTo n k) (.tmp 9) (.tmp 16) _ rfl rfl rfl 1 1 _ rfl rfl rfl (by simp) hv.out H.out (by rw [numTo_length]; simp; omega) B.out.size ?_; intro v' w' hO hg _)
      rw [← numTo_succ] at hO
      have B2 := Lib.hid (B.out.grown hg B.out.size (fun g e => ownsC_base H.out g e))
      have H2 := Lib.hid hO
      clear hO hg H B hv
      go_wp2_with fail
      go_roundw
      case rel => exact ⟨k + 1, by omega, by go_num, H2, B2⟩
      case measure => simp [intOf]; omega
    · obtain rfl : k = 8 := by omega
      rw [show (7 : Int) - ((8 : Nat) : Int) = -1 from rfl]
      have hconv := string_of_own H.out
      go_wp2_with fail
      go_ret
      exact ⟨rfl, ext_of B.out⟩
end Go.Proofs.YtnkmckdefiblhaaGreatDoor
namespace Go.Proofs.YtnkmckdefiblhaaGreatDoor
open Go.RowKit

def digits : ByteArray := ⟨#[48, 49, 50, 51, 52, 53, 54, 55, 56, 57, 97, 98, 99, 100, 101, 102]⟩
def hexDig (n : Nat) : UInt8 := digits.data.toList.getD n 0
def hexB (l : List UInt8) : List UInt8 := l.flatMap fun c => [hexDig (c.toNat / 16), hexDig (c.toNat % 16)]
theorem hexB_take_succ (l : List UInt8) (k : Nat) (h : k < l.length) : hexB (l.take (k + 1)) = hexB (l.take k) ++ [hexDig (l[k].toNat / 16), hexDig (l[k].toNat % 16)] := by
  rw [List.take_succ_eq_append_getElem h]; unfold hexB; rw [List.flatMap_append]; rfl
theorem hexB_length (l : List UInt8) : (hexB l).length = 2 * l.length := by
  induction l with
  | nil => rfl
  | cons c l ih =>
    show (hexDig _ :: hexDig _ :: hexB l).length = _
    simp only [List.length_cons, ih]; omega
theorem digit_at (n : Nat) (h : n < 16) : (⟨#[48, 49, 50, 51, 52, 53, 54, 55, 56, 57, 97, 98, 99, 100, 101, 102]⟩ : ByteArray)[n]'h = hexDig n := get_data0 digits n h

set_option maxRecDepth 100000 in
set_option maxHeartbeats 1000000 in
theorem hex_any (s : ByteArray) (w : World) (hs : s.size ≤ 1048576) :
    Calls Tryz.prog 56 #[.string s] w fun r w' => r = .returned (.string ⟨(hexB s.data.toList).toArray⟩) ∧ ∃ x, w' = ext w x := by
  have hlen : s.data.toList.length = s.size := by rw [Array.length_toList]; rfl
  have HL := Lib.hid hlen
  clear hlen
  go_enter Tryz.func56, Tryz.ntmps56
  go_wp2_with fail
  go_loopw [7, 3] (fun i v wr => ∃ k : Nat, i = .int .i64 k ∧ k ≤ s.size ∧ Hid (ownsB wr w.heap.size v (hexB (s.data.toList.take k))) ∧ Hid (Below w.heap.size w wr)) (fun i _ _ => s.size - (intOf i).toNat)
  case atStart => exact ⟨0, rfl, by omega, ownsB_nil _ _, Below.refl _ _⟩
  case round =>
    obtain ⟨k, rfl, hk, HO, BB⟩ := hrel
    by_cases hlt : k < s.size
    · have hl : k < s.data.toList.length := by rw [HL.out]; exact hlt
      obtain ⟨c, hc⟩ : ∃ c : UInt8, s[k] = c := ⟨_, rfl⟩
      have hs := hexB_take_succ s.data.toList k hl
      rw [show s.data.toList[k] = c from hc] at hs
      have HS := Lib.hid hs
      clear hs
      have hc1 := c.toNat_lt
      have e1 := digit_at (c.toNat / 16) (by omega)
      have e2 := digit_at (c.toNat % 16) (by omega)
      have h1 : (0 : Int) ≤ (c.toNat : Int) / 16 ∧ (c.toNat : Int) / 16 < 16 := by omega
      have h2 : (0 : Int) ≤ (c.toNat : Int) % 16 ∧ (c.toNat : Int) % 16 < 16 := by omega
      generalize hexDig (c.toNat / 16) = d1 at e1 HS
      generalize hexDig (c.toNat % 16) = d2 at e2 HS
      go_wp2_with fail
      refine wp_region_ftail 1 11 (by kernel_rfl) (by kernel_rfl) (fun _ _ _ _ _ h => h) ?_
      simp only [List.take_succ_cons, List.take_zero, List.drop_succ_cons, List.drop_zero]
      repeat (go_big_quiet_step (fail))
      refine wpQuiet_nil ?_
      rintro _ ⟨x, rfl⟩
      have HO1 := Lib.hid (ownsB_ext HO.out x)
      have BB1 := Lib.hid (BB.out.trans ((ext_below wr x).mono BB.out.size))
      generalize ext wr x = w2 at HO1 BB1 ⊢
      go_wp2_with (at_builtin; refine append_bytes [d1, d2] w.heap.size _ (hexB (s.data.toList.take k)) (.tmp 10) (.tmp 21) _ rfl rfl rfl 2 rfl rfl HO1.out (by rw [hexB_length, List.length_take]; simp; omega) BB1.out.size ?_; intro v' w' hO hg)
      rw [← HS.out] at hO
      have HO2 := Lib.hid hO
      have BB2 := Lib.hid (BB1.out.grown hg BB1.out.size (fun g e => ownsB_base HO1.out g e))
      clear hO hg HO BB
      go_wp2_with fail
      go_roundw
      case rel => exact ⟨k + 1, by go_num, by omega, HO2, BB2⟩
      case measure => simp [intOf]; omega
    · obtain rfl : k = s.size := by omega
      have hconv := string_of_owned HO.out
      rw [List.take_of_length_le (by rw [HL.out]; exact Nat.le_refl _)] at hconv
      go_wp2_with fail
      go_ret
      exact ⟨rfl, ext_of BB.out⟩
end Go.Proofs.YtnkmckdefiblhaaGreatDoor
namespace Go.Proofs.YtnkmckdefiblhaaGreatDoor
open Go.RowKit

def addAt (A : Nat → BitVec 32) (a b : Nat) : Nat → BitVec 32 := upd A a (A a + A b)
def mixAt (A : Nat → BitVec 32) (d a n : Nat) : Nat → BitVec 32 := upd A d (rotl (A d ^^^ A a) n)
/-- A quarter of a round. -/
def quarter (A : Nat → BitVec 32) (a b c d : Nat) : Nat → BitVec 32 :=
  mixAt (addAt (mixAt (addAt (mixAt (addAt (mixAt (addAt A a b) d a 16) c d) b c 12) a b) d a 8) c d) b c 7
/-- Four bytes, the least first. -/
def wordAt (l : List UInt8) (k : Nat) : BitVec 32 :=
  BitVec.ofNat 32 (l.getD k 0).toNat ||| BitVec.ofNat 32 (l.getD (k + 1) 0).toNat <<< 8 ||| BitVec.ofNat 32 (l.getD (k + 2) 0).toNat <<< 16 ||| BitVec.ofNat 32 (l.getD (k + 3) 0).toNat <<< 24

theorem byte32 (b : UInt8) : (b.toNat : Int) = val (BitVec.ofNat 32 b.toNat) := by
  have := b.toNat_lt
  unfold val
  rw [BitVec.toNat_ofNat, Nat.mod_eq_of_lt (by omega)]
theorem get_data (s : ByteArray) (i : Nat) (h : i < s.size) : s[i] = s.data.toList.getD i 0 := by
  show s.data[i] = _
  have : i < s.data.size := h
  simp only [List.getD_eq_getElem?_getD, Array.getElem?_toList]; rw [Array.getElem?_eq_getElem this]; rfl
theorem wordAt_walk (s : ByteArray) (h : 3 < s.size) :
    bits .or .u32 (bits .or .u32 (bits .or .u32 ((s[0].toNat : Nat) : Int) (((s[1].toNat : Nat) : Int) * 256 % 4294967296)) (((s[2].toNat : Nat) : Int) * 65536 % 4294967296)) (((s[3].toNat : Nat) : Int) * 16777216 % 4294967296) =
      val (wordAt s.data.toList 0) := by
  rw [byte32 s[0], byte32 s[1], byte32 s[2], byte32 s[3]]
  have e8 := shl32 (BitVec.ofNat 32 s[1].toNat) 8
  have e16 := shl32 (BitVec.ofNat 32 s[2].toNat) 16
  have e24 := shl32 (BitVec.ofNat 32 s[3].toNat) 24
  simp only [Int.reducePow] at e8 e16 e24
  rw [e8, e16, e24, or32, or32, or32]
  unfold wordAt
  rw [get_data s 0 (by omega), get_data s 1 (by omega), get_data s 2 (by omega), get_data s 3 h]

set_option maxHeartbeats 400000 in
theorem word_any (s : ByteArray) (w : World) (h3 : 3 < s.size) :
    Calls Tryz.prog 85 #[.string s] w fun e w' => e = .returned (.int .u32 (val (wordAt s.data.toList 0))) ∧ ∃ x, w' = ext w x := by
  have hw := Lib.hid (wordAt_walk s h3)
  have h0 : (0 : Int) < s.size := by omega
  have h1 : (1 : Int) < s.size := by omega
  have h2 : (2 : Int) < s.size := by omega
  have h3' : (3 : Int) < s.size := by omega
  have g0 : 0 < s.size := by omega
  go_enter Tryz.func85, Tryz.ntmps85
  go_wp2
  refine wp_region_ext (by kernel_rfl) (by kernel_rfl) ?_
  repeat (go_big_quiet_step (fail))
  refine wpQuiet_nil ?_
  rintro _ ⟨x1, rfl⟩
  go_wp2
  go_ret
  exact ⟨by rw [hw.out]; rfl, x1, rfl⟩

set_option maxHeartbeats 400000 in
theorem turn_any (x : BitVec 32) (n : Nat) (hn : n ≤ 32) (w : World) :
    Calls Tryz.prog 113 #[.int .u32 (val x), .int .i64 n] w fun e w' => e = .returned (.int .u32 (val (rotl x n))) ∧ ∃ x, w' = ext w x := by
  have hr : bits .or .u32 (val x * 2 ^ n % 4294967296) (val x / 2 ^ (32 - n)) = val (rotl x n) := by
    rw [shl32, shr32, or32]; rfl
  have hr' := Lib.hid hr
  clear hr
  go_enter Tryz.func113, Tryz.ntmps113
  go_wp2
  refine wp_region_ext (by kernel_rfl) (by kernel_rfl) ?_
  repeat (go_big_quiet_step (fail))
  refine wpQuiet_nil ?_
  rintro _ ⟨x1, rfl⟩
  go_wp2
  go_ret
  exact ⟨by rw [hr'.out]; rfl, x1, rfl⟩

/-! ### quarter: eight statements, each a region that draws its order -/
set_option maxRecDepth 100000 in
set_option maxHeartbeats 1000000 in
theorem quarter_any (A0 : Nat → BitVec 32) (b a c d e : Nat) (t : TypeId) (w0 : World) (hb0 : w0.heap[b]? = some (.cells (row32 16 A0) t (0, 0)))
    (la : a < 16) (lc : c < 16) (ld : d < 16) (le : e < 16) (va vc vd ve : Int) (ea : va = a) (ec : vc = c) (ed : vd = d) (ee : ve = e) :
    Calls Tryz.prog 86 #[.pointer (some ⟨b, 0, none⟩), .int .i64 va, .int .i64 vc, .int .i64 vd, .int .i64 ve] w0 fun r w' =>
      r = .returned (.tuple #[]) ∧ w0.grownBy w' (some b) ∧ w'.heap[b]? = some (.cells (row32 16 (quarter A0 a c d e)) t (0, 0)) := by
  subst ea ec ed ee
  have G0 := Lib.hid (grown_refl w0 (some b))
  have lb := lt_of_heap hb0
  have H0 := Lib.hid hb0
  have hc := cell_of_row32 hb0
  have hf := free_of_heap hb0
  clear hb0
  go_enter Tryz.func86, Tryz.ntmps86
  -- statement 1
  go_wp2
  refine wp_region_tail 13 (by kernel_rfl) (by kernel_rfl) ?_
  simp only [List.take_succ_cons, List.take_zero, List.drop_succ_cons, List.drop_zero]
  repeat (go_big_quiet_step (fail))
  refine wpQuiet_nil ?_
  rintro _ ⟨x0, rfl⟩
  go_wp2
  obtain ⟨S0, T0⟩ := store_row32 (x := x0) (i := a) (v := A0 a + A0 c) H0.out
  generalize hw : (ext w0 x0).setCell _ _ = w1 at S0 T0 ⊢
  clear hw hc hf
  have G1 := Lib.hid (G0.out.trans T0)
  replace lb := Nat.lt_of_lt_of_le lb T0.size
  obtain ⟨A1, hA1⟩ : ∃ A, A = upd A0 a (A0 a + A0 c) := ⟨_, rfl⟩
  rw [← hA1] at S0
  have H1 := Lib.hid S0
  have hc := cell_of_row32 S0
  have hf := free_of_heap S0
  have E1 := Lib.hid hA1
  clear S0 T0 hA1

  -- statement 2
  go_wp2
  refine wp_region_tail 16 (by kernel_rfl) (by kernel_rfl) ?_
  simp only [List.take_succ_cons, List.take_zero, List.drop_succ_cons, List.drop_zero]
  repeat (go_big_quiet_step ((go_at_call 113; refine (turn_any (A1 e ^^^ A1 a) 16 (by omega) _).mono ?_; rintro _ _ ⟨rfl, hx⟩; exact ⟨rfl, ext_trans ⟨_, rfl⟩ hx⟩)))
  refine wpQuiet_nil ?_
  rintro _ ⟨x1, rfl⟩
  go_wp2
  obtain ⟨S1, T1⟩ := store_row32 (x := x1) (i := e) (v := rotl (A1 e ^^^ A1 a) 16) H1.out
  generalize hw : (ext w1 x1).setCell _ _ = w2 at S1 T1 ⊢
  clear hw hc hf
  have G2 := Lib.hid (G1.out.trans T1)
  replace lb := Nat.lt_of_lt_of_le lb T1.size
  obtain ⟨A2, hA2⟩ : ∃ A, A = upd A1 e (rotl (A1 e ^^^ A1 a) 16) := ⟨_, rfl⟩
  rw [← hA2] at S1
  have H2 := Lib.hid S1
  have hc := cell_of_row32 S1
  have hf := free_of_heap S1
  have E2 := Lib.hid hA2
  clear S1 T1 hA2

  -- statement 3
  go_wp2
  refine wp_region_tail 13 (by kernel_rfl) (by kernel_rfl) ?_
  simp only [List.take_succ_cons, List.take_zero, List.drop_succ_cons, List.drop_zero]
  repeat (go_big_quiet_step (fail))
  refine wpQuiet_nil ?_
  rintro _ ⟨x2, rfl⟩
  go_wp2
  obtain ⟨S2, T2⟩ := store_row32 (x := x2) (i := d) (v := A2 d + A2 e) H2.out
  generalize hw : (ext w2 x2).setCell _ _ = w3 at S2 T2 ⊢
  clear hw hc hf
  have G3 := Lib.hid (G2.out.trans T2)
  replace lb := Nat.lt_of_lt_of_le lb T2.size
  obtain ⟨A3, hA3⟩ : ∃ A, A = upd A2 d (A2 d + A2 e) := ⟨_, rfl⟩
  rw [← hA3] at S2
  have H3 := Lib.hid S2
  have hc := cell_of_row32 S2
  have hf := free_of_heap S2
  have E3 := Lib.hid hA3
  clear S2 T2 hA3

  -- statement 4
  go_wp2
  refine wp_region_tail 16 (by kernel_rfl) (by kernel_rfl) ?_
  simp only [List.take_succ_cons, List.take_zero, List.drop_succ_cons, List.drop_zero]
  repeat (go_big_quiet_step ((go_at_call 113; refine (turn_any (A3 c ^^^ A3 d) 12 (by omega) _).mono ?_; rintro _ _ ⟨rfl, hx⟩; exact ⟨rfl, ext_trans ⟨_, rfl⟩ hx⟩)))
  refine wpQuiet_nil ?_
  rintro _ ⟨x3, rfl⟩
  go_wp2
  obtain ⟨S3, T3⟩ := store_row32 (x := x3) (i := c) (v := rotl (A3 c ^^^ A3 d) 12) H3.out
  generalize hw : (ext w3 x3).setCell _ _ = w4 at S3 T3 ⊢
  clear hw hc hf
  have G4 := Lib.hid (G3.out.trans T3)
  replace lb := Nat.lt_of_lt_of_le lb T3.size
  obtain ⟨A4, hA4⟩ : ∃ A, A = upd A3 c (rotl (A3 c ^^^ A3 d) 12) := ⟨_, rfl⟩
  rw [← hA4] at S3
  have H4 := Lib.hid S3
  have hc := cell_of_row32 S3
  have hf := free_of_heap S3
  have E4 := Lib.hid hA4
  clear S3 T3 hA4

  -- statement 5
  go_wp2
  refine wp_region_tail 13 (by kernel_rfl) (by kernel_rfl) ?_
  simp only [List.take_succ_cons, List.take_zero, List.drop_succ_cons, List.drop_zero]
  repeat (go_big_quiet_step (fail))
  refine wpQuiet_nil ?_
  rintro _ ⟨x4, rfl⟩
  go_wp2
  obtain ⟨S4, T4⟩ := store_row32 (x := x4) (i := a) (v := A4 a + A4 c) H4.out
  generalize hw : (ext w4 x4).setCell _ _ = w5 at S4 T4 ⊢
  clear hw hc hf
  have G5 := Lib.hid (G4.out.trans T4)
  replace lb := Nat.lt_of_lt_of_le lb T4.size
  obtain ⟨A5, hA5⟩ : ∃ A, A = upd A4 a (A4 a + A4 c) := ⟨_, rfl⟩
  rw [← hA5] at S4
  have H5 := Lib.hid S4
  have hc := cell_of_row32 S4
  have hf := free_of_heap S4
  have E5 := Lib.hid hA5
  clear S4 T4 hA5

  -- statement 6
  go_wp2
  refine wp_region_tail 16 (by kernel_rfl) (by kernel_rfl) ?_
  simp only [List.take_succ_cons, List.take_zero, List.drop_succ_cons, List.drop_zero]
  repeat (go_big_quiet_step ((go_at_call 113; refine (turn_any (A5 e ^^^ A5 a) 8 (by omega) _).mono ?_; rintro _ _ ⟨rfl, hx⟩; exact ⟨rfl, ext_trans ⟨_, rfl⟩ hx⟩)))
  refine wpQuiet_nil ?_
  rintro _ ⟨x5, rfl⟩
  go_wp2
  obtain ⟨S5, T5⟩ := store_row32 (x := x5) (i := e) (v := rotl (A5 e ^^^ A5 a) 8) H5.out
  generalize hw : (ext w5 x5).setCell _ _ = w6 at S5 T5 ⊢
  clear hw hc hf
  have G6 := Lib.hid (G5.out.trans T5)
  replace lb := Nat.lt_of_lt_of_le lb T5.size
  obtain ⟨A6, hA6⟩ : ∃ A, A = upd A5 e (rotl (A5 e ^^^ A5 a) 8) := ⟨_, rfl⟩
  rw [← hA6] at S5
  have H6 := Lib.hid S5
  have hc := cell_of_row32 S5
  have hf := free_of_heap S5
  have E6 := Lib.hid hA6
  clear S5 T5 hA6

  -- statement 7
  go_wp2
  refine wp_region_tail 13 (by kernel_rfl) (by kernel_rfl) ?_
  simp only [List.take_succ_cons, List.take_zero, List.drop_succ_cons, List.drop_zero]
  repeat (go_big_quiet_step (fail))
  refine wpQuiet_nil ?_
  rintro _ ⟨x6, rfl⟩
  go_wp2
  obtain ⟨S6, T6⟩ := store_row32 (x := x6) (i := d) (v := A6 d + A6 e) H6.out
  generalize hw : (ext w6 x6).setCell _ _ = w7 at S6 T6 ⊢
  clear hw hc hf
  have G7 := Lib.hid (G6.out.trans T6)
  replace lb := Nat.lt_of_lt_of_le lb T6.size
  obtain ⟨A7, hA7⟩ : ∃ A, A = upd A6 d (A6 d + A6 e) := ⟨_, rfl⟩
  rw [← hA7] at S6
  have H7 := Lib.hid S6
  have hc := cell_of_row32 S6
  have hf := free_of_heap S6
  have E7 := Lib.hid hA7
  clear S6 T6 hA7

  -- statement 8
  go_wp2
  refine wp_region_tail 16 (by kernel_rfl) (by kernel_rfl) ?_
  simp only [List.take_succ_cons, List.take_zero, List.drop_succ_cons, List.drop_zero]
  repeat (go_big_quiet_step ((go_at_call 113; refine (turn_any (A7 c ^^^ A7 d) 7 (by omega) _).mono ?_; rintro _ _ ⟨rfl, hx⟩; exact ⟨rfl, ext_trans ⟨_, rfl⟩ hx⟩)))
  refine wpQuiet_nil ?_
  rintro _ ⟨x7, rfl⟩
  go_wp2
  obtain ⟨S7, T7⟩ := store_row32 (x := x7) (i := c) (v := rotl (A7 c ^^^ A7 d) 7) H7.out
  generalize hw : (ext w7 x7).setCell _ _ = w8 at S7 T7 ⊢
  clear hw hc hf
  have G8 := Lib.hid (G7.out.trans T7)
  replace lb := Nat.lt_of_lt_of_le lb T7.size
  obtain ⟨A8, hA8⟩ : ∃ A, A = upd A7 c (rotl (A7 c ^^^ A7 d) 7) := ⟨_, rfl⟩
  rw [← hA8] at S7
  have H8 := Lib.hid S7
  have hc := cell_of_row32 S7
  have hf := free_of_heap S7
  have E8 := Lib.hid hA8
  clear S7 T7 hA8

  go_wp2
  go_end0
  have e : A8 = quarter A0 a c d e := by
    rw [E8.out, E7.out, E6.out, E5.out, E4.out, E3.out, E2.out, E1.out]; rfl
  exact ⟨rfl, G8.out, by rw [H8.out, e]⟩
end Go.Proofs.YtnkmckdefiblhaaGreatDoor
