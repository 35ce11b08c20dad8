/- strings.Builder in a call's own blocks: WriteString, with all that stays (the walk). · desk.Session (the walk: a range over a function, inside the wide fence). -/
import Derived.Test.YtnkmckdefiblhaaGreatDoorProg
import Derived.Test.YtnkmckdefiblhaaGreatDoorG18
import Derived.Test.YtnkmckdefiblhaaGreatDoorShelfD
import Derived.Lib.AppendStr
import Derived.Shelf.Strings.Builder1
import Derived.WalkKit
import Derived.Test.YtnkmckdefiblhaaGreatDoorG42
namespace Go.Proofs.YtnkmckdefiblhaaGreatDoor
open Go.RowKit Go.Shelf

section
variable {P : Program}
/-- 'append(v, s...)': the row stays, or a new one is laid. -/
theorem append_string_at (w : World) (base : Nat) (t u ty e : TypeId) (i : TypeInfo) (ht : P.underlying t = some (.slice e)) (hu : P.underlying u = some .string) (hi : P.info? e = some i) (hz : i.zero = some (.int .u8 0))
    (hsize : i.size = 1) (hby : i.bytes = 1) (v : Value) (n : Nat) (xs : List Value) (hown : w.ownsRow base e 1 v n xs) (s : ByteArray) (hbytes : n + s.size ≤ 140737488355328) (hbase : base ≤ w.heap.size) :
    ∃ v' w', (Builtin.append_ #[t, u] ty #[v, .string s]).run P w = .ok v' w' ∧ w'.ownsRow base e 1 v' (n + s.size) (xs ++ Lib.strCells s) ∧ w.grownBy w' v.ownBlock ∧ (v'.ownBlock = v.ownBlock ∨ ∀ g, v'.ownBlock = some g → w.heap.size ≤ g) := by
  have h63 : n + s.size ≤ maxLen := by unfold maxLen; omega
  obtain ⟨v', w', hr, h2, h3, _⟩ := Lib.run_append_own_string (P := P) w base t u ty e i ht hu hi hz hsize hby v n xs hown s h63 hbytes hbase
  refine ⟨v', w', hr, h2, h3, ?_⟩
  rcases hown.2 with ⟨rfl, rfl⟩ | ⟨g, cap, cur, rfl, hbg, hg, hnc, hcm, hcs, htake⟩
  · obtain ⟨v2, w2, hr2, h22, _⟩ := Lib.run_append_own_string (P := P) w w.heap.size t u ty e i ht hu hi hz hsize hby (.slice none 0 0) 0 xs ⟨hown.1, .inl ⟨rfl, rfl⟩⟩ s h63 hbytes (Nat.le_refl _)
    rw [hr] at hr2
    injection hr2 with hr2 _
    subst hr2
    refine .inr fun g hg => ?_
    rcases h22.2 with ⟨h4, _⟩ | ⟨g', _, _, h4, h5, _⟩
    · rw [h4] at hg; cases hg
    · rw [h4] at hg
      have hg : some g' = some g := hg
      injection hg with hg
      omega
  · by_cases hroom : n + s.size ≤ cap
    · have hcs' : cur.size = cap := by simpa using hcs
      have hr2 := Lib.run_append_room_string (P := P) w t u ty e i ht hu hi hsize g n cap cur hg s hroom (by omega)
      rw [hr] at hr2
      injection hr2 with hr2 _
      subst hr2
      exact .inl rfl
    · have hxl : xs.length = n := by simpa using hown.1
      have holds : ∀ j u, xs[j]? = some u → w.cell? ((⟨g, 0, none⟩ : Addr).add j) = some u := hown.cells (g := g) rfl
      have hr2 := Lib.run_append_grow_string (P := P) w t u ty e i (.int .u8 0) ht hu hi hz ⟨g, 0, none⟩ n cap xs (by rw [hsize]; simpa using hxl) holds s (by omega) (by omega) (by rw [hby]; exact growslice_fits (by omega) (by omega))
      rw [hr] at hr2
      injection hr2 with hr2 _
      subst hr2
      refine .inr fun g' hg' => ?_
      have hg' : some w.heap.size = some g' := hg'
      injection hg' with hg'
      omega
theorem wpList_append_string_at {w : World} {ops : Array Oper} {rest : List Oper} {o : Oper} {a : Act} {Q : Exit → Act → World → Prop} (hgd : o.guard = none) (sl x : Operand) (t u : TypeId)
    (ho : o.op = .call { callee := .builtin .append, args := #[sl, x], argTypes := #[t, u] })
    (base : Nat) (e : TypeId) (i : TypeInfo) (ht : P.underlying t = some (.slice e)) (hu : P.underlying u = some .string) (hi : P.info? e = some i) (hz : i.zero = some (.int .u8 0))
    (hsize : i.size = 1) (hby : i.bytes = 1) (v : Value) (n : Nat) (xs : List Value) (hs : a.eval sl = v) (hown : w.ownsRow base e 1 v n xs) (s : ByteArray) (hx : a.eval x = .string s) (hbytes : n + s.size ≤ 140737488355328) (hbase : base ≤ w.heap.size)
    (h : ∀ v' w', w'.ownsRow base e 1 v' (n + s.size) (xs ++ Lib.strCells s) → w.grownBy w' v.ownBlock → (v'.ownBlock = v.ownBlock ∨ ∀ g, v'.ownBlock = some g → w.heap.size ≤ g) → wpList P ops Q rest (a.put o.dst v') w') : wpList P ops Q (o :: rest) a w := by
  refine wpList_plain hgd fun K hK => ?_
  obtain ⟨v', w', hr, h2, h3, h4⟩ := append_string_at (P := P) w base t u o.type e i ht hu hi hz hsize hby v n xs hown s hbytes hbase
  unfold Oper.wp execOp
  simp only [ho, resolve, invoke, builtin, Sem.run_bind, Sem.run_pure, Result.andThen_ok, List.map_toArray, List.map_cons, List.map_nil, hs, hx, hr]
  exact hK _ _ (h v' w' h2 h3 h4)
end
/-- A builder in block b, whose row is v: it holds l. -/
def bldAt (w : World) (B b : Nat) (v : Value) (l : List UInt8) : Prop :=
  ∃ p, w.heap[b]? = some (.cells #[p, v] 37 (0, 0)) ∧ (p = .pointer none ∨ p = .pointer (some ⟨b, 0, none⟩)) ∧ w.ownsRow B 5 1 v l.length (Lib.byteCells l)
theorem lays_n240 : Lays.n240 Tryz.prog Tryz.lays156_ren := { Tryz.lays156 with }
theorem own_ne {w : World} {base b : Nat} {v p q : Value} {n : Nat} {xs : List Value} (hown : w.ownsRow base 5 1 v n xs) (hb : w.heap[b]? = some (.cells #[p, q] 37 (0, 0))) : v.ownBlock ≠ some b :=
  Lib.ownBlock_ne hown hb (by decide)
theorem copy_any (B b : Nat) (v : Value) (l : List UInt8) (w : World) (h : bldAt w B b v l) :
    Calls Tryz.prog 17 #[.pointer (some ⟨b, 0, none⟩)] w fun e w' => e = .returned (.tuple #[]) ∧ w'.heap[b]? = some (.cells #[.pointer (some ⟨b, 0, none⟩), v] 37 (0, 0)) ∧ w'.ownsRow B 5 1 v l.length (Lib.byteCells l) ∧ w.grownBy w' (some b) := by
  obtain ⟨p, h1, h2, h3⟩ := h
  have c0 : w.cell? ⟨b, 0, none⟩ = some p := by rw [cell_in, h1]; rfl
  have hne := own_ne h3 h1
  rcases h2 with rfl | rfl
  · refine (Any.Builder_copyCheck_fresh lays_n240 Tryz.Builder_Extra_156.toX72 b w c0 (by simp [World.shape?, h1]; rfl) (Lib.frozen_of_heap h1 0)).mono ?_
    rintro e w' ⟨rfl, rfl⟩
    have hg := grown_setCell w b 0 (.pointer (some ⟨b, 0, none⟩))
    exact ⟨rfl, heap_setCell h1 _, World.ownsRow.kept h3 hg (.inr hne), hg⟩
  · refine (Any.Builder_copyCheck_used lays_n240 Tryz.Builder_Extra_156.toX72 b w c0).mono ?_
    rintro e w' ⟨rfl, rfl⟩
    exact ⟨rfl, h1, h3, .refl _ _⟩
/-- What WriteString leaves. -/
def Wrote (B b : Nat) (v : Value) (l : List UInt8) (s : ByteArray) (w w' : World) : Prop :=
  ∃ v', bldAt w' B b v' (l ++ s.data.toList) ∧ (v'.ownBlock = v.ownBlock ∨ ∀ g, v'.ownBlock = some g → w.heap.size ≤ g) ∧
    w'.os = w.os ∧ w'.tape = w.tape ∧ w'.output = w.output ∧ w.heap.size ≤ w'.heap.size ∧ ∀ i, i < w.heap.size → i ≠ b → v.ownBlock ≠ some i → w'.heap[i]? = w.heap[i]?
theorem infoU8 : (Tryz.prog.info? 5).map (fun i => (i.zero, i.size, i.bytes)) = some (some (.int .u8 0), 1, 1) := by kernel_rfl
set_option maxRecDepth 100000 in
set_option maxHeartbeats 4000000 in
theorem bwrite_any (B b : Nat) (v : Value) (l : List UInt8) (s : ByteArray) (w : World) (h : bldAt w B b v l) (hl : l.length + s.size ≤ 140737488355328) (hB : B ≤ w.heap.size) :
    Calls Tryz.prog 8 #[.pointer (some ⟨b, 0, none⟩), .string s] w fun e w' => e = .returned (.tuple #[.int .i64 s.size, .nilIface]) ∧ Wrote B b v l s w w' := by
  obtain ⟨i0, hi, hz0, hz1, hz2⟩ := info_parts infoU8
  have CC := copy_any B b v l w h
  have hlt : b < w.heap.size := by obtain ⟨p, h1, _⟩ := h; exact lt_of_heap h1
  clear h
  go_enter Tryz.func8, Tryz.ntmps8
  go_wp2_with fail
  refine CC.mono ?_
  rintro _ w1 ⟨rfl, hb, hown, hg1⟩
  have hne := own_ne hown hb
  have c0 : w1.cell? ⟨b, 0, none⟩ = some (.pointer (some ⟨b, 0, none⟩)) := by rw [cell_in, hb]; rfl
  have c1 : w1.cell? ⟨b, 1, none⟩ = some v := by rw [cell_in, hb]; rfl
  have lb := lt_of_heap hb
  have hb1 : B ≤ w1.heap.size := Nat.le_trans hB hg1.size
  clear CC
  go_wp2_with (at_builtin; go_must (refine wpList_append_string_at rfl _ _ 35 9 rfl B 5 i0 Tryz.underlying35 Tryz.underlying9 hi hz0 hz1 hz2 v l.length (Lib.byteCells l) rfl hown s rfl hl hb1 ?_))
  intro v2 w2 hown2 hg2 hat
  have hb2 : w2.heap[b]? = some (.cells #[.pointer (some ⟨b, 0, none⟩), v] 37 (0, 0)) := (hg2.block b lb (fun e => hne e.symm)).trans hb
  have d0 : w2.cell? ⟨b, 0, none⟩ = some (.pointer (some ⟨b, 0, none⟩)) := by rw [cell_in, hb2]; rfl
  have d1 : w2.cell? ⟨b, 1, none⟩ = some v := by rw [cell_in, hb2]; rfl
  have ff := free_of_heap hb2
  have lb2 := lt_of_heap hb2
  have hne2 := own_ne hown2 hb2
  have HS := Lib.hid (show (w2.setCell ⟨b, 1, none⟩ v2).heap[b]? = some (.cells #[.pointer (some ⟨b, 0, none⟩), v2] 37 (0, 0)) from heap_setCell hb2 _)
  have GS := Lib.hid (grown_setCell w2 b 1 v2)
  have HO := Lib.hid hown2
  have HN := Lib.hid hne2
  have HA := Lib.hid hat
  have G1 := Lib.hid hg1
  have G2 := Lib.hid hg2
  obtain ⟨q2, n2, cp2, rfl⟩ : ∃ q n c, v2 = .slice q n c := by
    rcases hown2.2 with ⟨hv, _⟩ | ⟨g, cap, cur, hv, _⟩
    · exact ⟨_, _, _, hv⟩
    · exact ⟨_, _, _, hv⟩
  clear hown2 hne2 hat hg1 hg2 hown hne hb hb2 c0 c1
  go_wp2_with fail
  go_ret2
  refine ⟨rfl, .slice q2 n2 cp2, ⟨_, HS.out, .inr rfl, ?_⟩, ?_, ?_⟩
  · have := World.ownsRow.kept HO.out GS.out (.inr HN.out)
    rw [List.length_append, Array.length_toList, Lib.byteCells_append, ← Lib.strCells_eq]
    exact this
  · rcases HA.out with h | h
    · exact .inl h
    · exact .inr fun g hg => Nat.le_trans G1.out.size (h g hg)
  · refine ⟨GS.out.os.trans (G2.out.os.trans G1.out.os), GS.out.tape.trans (G2.out.tape.trans G1.out.tape), GS.out.output.trans (G2.out.output.trans G1.out.output), Nat.le_trans G1.out.size (Nat.le_trans G2.out.size GS.out.size), fun i hi h1 h2 => ?_⟩
    have hi1 := Nat.lt_of_lt_of_le hi G1.out.size
    exact (GS.out.block i (Nat.lt_of_lt_of_le hi1 G2.out.size) (fun e => h1 (by injection e))).trans ((G2.out.block i hi1 (fun e => h2 e.symm)).trans (G1.out.block i hi (fun e => h1 (by injection e))))
end Go.Proofs.YtnkmckdefiblhaaGreatDoor
namespace Go.Proofs.YtnkmckdefiblhaaGreatDoor
open Go.RowKit Go.Shelf
attribute [local go_sem] Oper.semAt_some

set_option maxRecDepth 100000 in
set_option maxHeartbeats 2000000 in
theorem splitSeq_any (s : ByteArray) (w : World) : Calls Tryz.prog 6 #[.string s, .string ⟨#[10]⟩] w fun e w' => e = .returned (.func (.func 28) #[] #[.pointer (some ⟨w.heap.size + 1, 0, none⟩), .pointer (some ⟨w.heap.size, 0, none⟩), .pointer (some ⟨w.heap.size + 2, 0, none⟩)]) ∧
    boxAt w' w.heap.size (w.heap.size + 1) (w.heap.size + 2) s ∧ w'.heap.size = w.heap.size + 3 ∧ ∃ x, w' = ext w x := by
  have hmf : ∀ (fn : Fn) (first cap : Array Value) (w : World), (Instr.makeFunc fn first cap).run Tryz.prog w = .ok (.func fn first cap) w := fun _ _ _ _ => rfl
  have H : Calls Tryz.prog 15 #[.string s, .string ⟨#[10]⟩, .int .i64 0] w fun e w' => e = .returned (.func (.func 28) #[] #[.pointer (some ⟨w.heap.size + 1, 0, none⟩), .pointer (some ⟨w.heap.size, 0, none⟩), .pointer (some ⟨w.heap.size + 2, 0, none⟩)]) ∧
      boxAt w' w.heap.size (w.heap.size + 1) (w.heap.size + 2) s ∧ w'.heap.size = w.heap.size + 3 ∧ ∃ x, w' = ext w x := by
    go_enter Tryz.func15, Tryz.ntmps15
    go_wp2_with fail
    go_ret
    refine ⟨rfl, ⟨?_, ?_, ?_, by omega, by omega⟩, by simp, ext_alloc _ (ext_alloc _ (ext_alloc _ (ext_refl w)))⟩
    · exact (Below.heap_alloc _ _ _ (by simp; omega)).trans ((Below.heap_alloc _ _ _ (by simp)).trans (heap_alloc_at w _))
    · have h1 := heap_alloc_at (w.alloc (.cells #[.string s] 9)) (.cells #[.string ⟨#[10]⟩] 9)
      have e1 : (w.alloc (.cells #[.string s] 9)).heap.size = w.heap.size + 1 := by simp
      rw [e1] at h1
      exact (Below.heap_alloc _ _ _ (by simp)).trans h1
    · have h1 := heap_alloc_at ((w.alloc (.cells #[.string s] 9)).alloc (.cells #[.string ⟨#[10]⟩] 9)) (.cells #[.int .i64 0] 3)
      have e1 : ((w.alloc (.cells #[.string s] 9)).alloc (.cells #[.string ⟨#[10]⟩] 9)).heap.size = w.heap.size + 2 := by simp
      rw [e1] at h1
      exact h1
  generalize hP : (fun e w' => e = Ending.returned (.func (.func 28) #[] #[.pointer (some ⟨w.heap.size + 1, 0, none⟩), .pointer (some ⟨w.heap.size, 0, none⟩), .pointer (some ⟨w.heap.size + 2, 0, none⟩)]) ∧ boxAt w' w.heap.size (w.heap.size + 1) (w.heap.size + 2) s ∧ w'.heap.size = w.heap.size + 3 ∧ ∃ x, w' = ext w x : Ending → World → Prop) = P at H ⊢
  have HP : Hid (∀ e w', P e w' → e = .returned (.func (.func 28) #[] #[.pointer (some ⟨w.heap.size + 1, 0, none⟩), .pointer (some ⟨w.heap.size, 0, none⟩), .pointer (some ⟨w.heap.size + 2, 0, none⟩)])) := Lib.hid fun e w' h => by rw [← hP] at h; exact h.1
  clear hP
  go_enter Tryz.func6, Tryz.ntmps6
  go_wp2_with fail
  refine H.mono ?_
  intro e w1 h
  obtain rfl := HP.out _ _ h
  have HH := Lib.hid h
  clear h H
  go_wp2_with fail
  exact HH.out
/-- What stands in Session's blocks between two lines: at k the desk, its variable behind it; bb: the builder; R: the blocks of the loop. -/
structure sesAt (w0 : World) (k bb : Nat) (R : Nat → Prop) (acc : List ByteArray) (A : World) (Dk : Blk) (v : Value) : Prop where
  dk : dkIn A Dk k (200 * acc.length) (sessP acc).2
  ge : ∀ i, Dk i → k ≤ i
  var : A.heap[k + 1]? = some (.cells #[.pointer (some ⟨k, 0, none⟩)] 24 (0, 0))
  bld : bldAt A k bb v (sessP acc).1.data.toList
  offR : ∀ i, R i → ¬ Dk i ∧ v.ownBlock ≠ some i
  off : ¬ Dk (k + 1) ∧ ¬ Dk bb ∧ ∀ g, v.ownBlock = some g → ¬ Dk g ∧ g ≠ k + 1 ∧ g < A.heap.size
  low : Below k w0 A
theorem bldAt.stay {w w' : World} {B b : Nat} {v : Value} {l : List UInt8} (h : bldAt w B b v l) (hb : w'.heap[b]? = w.heap[b]?) (hg : ∀ g, v.ownBlock = some g → w'.heap[g]? = w.heap[g]?) : bldAt w' B b v l := by
  obtain ⟨p, h1, h2, h3, ⟨h4, h5⟩ | ⟨g, cap, cur, h4, h5, h6, h7⟩⟩ := h
  · exact ⟨p, hb.trans h1, h2, h3, .inl ⟨h4, h5⟩⟩
  · exact ⟨p, hb.trans h1, h2, h3, .inr ⟨g, cap, cur, h4, h5, (hg g (by rw [h4]; rfl)).trans h6, h7⟩⟩
theorem bldAt.base {w : World} {B b : Nat} {v : Value} {l : List UInt8} (h : bldAt w B b v l) {g : Nat} (hg : v.ownBlock = some g) : B ≤ g ∧ g < w.heap.size ∧ g ≠ b := by
  obtain ⟨p, h1, h2, h3⟩ := h
  have hne := own_ne h3 h1
  obtain ⟨_, ⟨h4, h5⟩ | ⟨g', cap, cur, h4, h5, h6, h7⟩⟩ := h3
  · rw [h4] at hg; cases hg
  · rw [h4] at hg hne
    have hg : some g' = some g := hg
    injection hg with hg
    subst hg
    exact ⟨h5, lt_of_heap h6, fun e => hne (by rw [e]; rfl)⟩
theorem bldAt.lt {w : World} {B b : Nat} {v : Value} {l : List UInt8} (h : bldAt w B b v l) : b < w.heap.size := by
  obtain ⟨p, h1, _⟩ := h; exact lt_of_heap h1
theorem sesAt.grow {w0 : World} {k bb : Nat} {R : Nat → Prop} {acc : List ByteArray} {A B : World} {Dk : Blk} {v : Value} {row : Option Nat} (h : sesAt w0 k bb R acc A Dk v) (g : A.grownBy B row) (hr : ∀ r, row = some r → R r ∧ r ≠ k + 1 ∧ r ≠ bb ∧ k ≤ r) : sesAt w0 k bb R acc B Dk v := by
  have hD : ∀ i, Dk i → B.heap[i]? = A.heap[i]? := fun i hi => g.block i (h.dk.lt i hi) (fun e => (h.offR i (hr i e.symm).1).1 hi)
  refine ⟨h.dk.same hD g.size, h.ge, (g.block _ (lt_of_heap h.var) (fun e => (hr _ e.symm).2.1 rfl)).trans h.var, h.bld.stay (g.block _ h.bld.lt (fun e => (hr _ e.symm).2.2.1 rfl)) (fun b hb => g.block b (h.bld.base hb).2.1 (fun e => (h.offR b (hr b e.symm).1).2 hb)), h.offR, ⟨h.off.1, h.off.2.1, fun b hb => ?_⟩, h.low.grown g (by have := lt_of_heap h.var; omega) (fun r e => (hr r e).2.2.2)⟩
  obtain ⟨h1, h2, h3⟩ := h.off.2.2 b hb
  exact ⟨h1, h2, Nat.lt_of_lt_of_le h3 g.size⟩
theorem glob_low {w0 A : World} {k : Nat} {F : Blk} (G : GlobD w0 none0) (hk : w0.heap.size = k) (hb : Below k w0 A) (hF : ∀ i, F i → k ≤ i ∧ i < A.heap.size) : GlobD A F := by
  subst hk
  refine (G.step (F' := fun i => w0.heap.size ≤ i ∧ i < A.heap.size) ((step.of_below none0 hb).more (fun i hi => .inr hi))).sub hF
theorem trimS_any (t : ByteArray) (w : World) (ht : t.size ≤ 1048576) : Calls Tryz.prog 7 #[.string t, .string ⟨#[10]⟩] w fun e w' => e = .returned (.string (trimT t)) ∧ w' = w :=
  Tryz.strings_TrimSuffix t ⟨#[10]⟩ w (by omega)
theorem trimT_size (t : ByteArray) : (trimT t).size ≤ t.size := by
  show (List.toArray _).size ≤ _
  rw [List.size_toArray]
  have hl : t.data.toList.length = t.size := by rw [Array.length_toList]; rfl
  unfold Lib.trimSuffix
  split
  · rw [List.length_take]; omega
  · omega
theorem app_list (a b : ByteArray) : (a ++ b).data.toList = a.data.toList ++ b.data.toList := by
  rw [show (a ++ b).data = a.data ++ b.data from ByteArray.data_append, Array.toList_append]
theorem three_new (w : World) (o0 o1 o2 : Obj) : (((w.alloc o0).alloc o1).alloc o2).heap[w.heap.size]? = some o0 ∧ (((w.alloc o0).alloc o1).alloc o2).heap[w.heap.size + 1]? = some o1 ∧ (((w.alloc o0).alloc o1).alloc o2).heap[w.heap.size + 1 + 1]? = some o2 ∧
    (((w.alloc o0).alloc o1).alloc o2).heap.size = w.heap.size + 3 ∧ ∃ x, ((w.alloc o0).alloc o1).alloc o2 = ext w x := by
  have e1 : (w.alloc o0).heap.size = w.heap.size + 1 := by simp
  have e2 : ((w.alloc o0).alloc o1).heap.size = w.heap.size + 2 := by simp
  have h1 := heap_alloc_at (w.alloc o0) o1
  have h2 := heap_alloc_at ((w.alloc o0).alloc o1) o2
  rw [e1] at h1
  rw [e2] at h2
  refine ⟨?_, ?_, h2, by simp, ext_alloc _ (ext_alloc _ (ext_alloc _ (ext_refl w)))⟩
  · exact (Below.heap_alloc _ _ _ (by omega)).trans ((Below.heap_alloc _ _ _ (by omega)).trans (heap_alloc_at w o0))
  · exact (Below.heap_alloc _ _ _ (by omega)).trans h1
set_option maxRecDepth 100000 in
set_option maxHeartbeats 8000000 in
theorem session_any (t : ByteArray) (w : World) (hG : GlobD w none0) (ht : t.size ≤ 4000) :
    Calls Tryz.prog 4 #[.string t] w fun e w' => e = .returned (.string (sessB t)) ∧ ∃ x, w' = ext w x := by
  have G := Lib.hid hG
  clear hG
  refine (callsIn_wide (n := 4)).1 ?_
  refine callsIn_of_wp_marks Tryz.func4 rfl trivial ?_ rfl
  simp only [Tryz.ntmps4, List.size_toArray, List.length_cons, List.length_nil, Nat.reduceAdd, Nat.reduceSub, Array.replicate_succ, Array.replicate_zero, List.push_toArray, List.append_toArray, List.nil_append, List.cons_append]
  gi_wp2
  obtain ⟨n0, n1, n2, n3, n4⟩ := three_new w (.cells #[.pointer none, .map none, .int .i64 0, .string ⟨#[]⟩, .slice none 0 0, .int .i64 0] 31) (.cells #[.pointer (some ⟨w.heap.size, 0, none⟩)] 24) (.cells #[.string ⟨#[]⟩] 9)
  generalize ((w.alloc (.cells #[.pointer none, .map none, .int .i64 0, .string ⟨#[]⟩, .slice none 0 0, .int .i64 0] 31)).alloc (.cells #[.pointer (some ⟨w.heap.size, 0, none⟩)] 24)).alloc (.cells #[.string ⟨#[]⟩] 9) = wc at *
  have N0 := Lib.hid n0
  have N1 := Lib.hid n1
  have NS := Lib.hid n3
  have LW := Lib.hid (ext_iff.1 n4)
  have FR := fresh_raw (some ⟨w.heap.size + 1 + 1, 0, none⟩) [⟨#[]⟩] 1 wc w.heap.size _ _ _ _ _ _ n0 (glob_low G.out rfl (ext_iff.1 n4) (fun i e => by omega))
    (fun j s hj => by
      cases j with
      | zero =>
        injection hj with hj
        subst hj
        exact ⟨_, 0, rfl, lt_of_heap n2, by omega, box_one n2⟩
      | succ j => cases hj) (smallW_of (by decide)) rfl
  clear n0 n1 n2 n3 n4
  refine ⟨trivial, ?_⟩
  refine ((callsIn_wide (n := 3)).2 FR).mono ?_
  rintro _ w4 ⟨rfl, A4, hd4, hs4⟩
  have D4 := Lib.hid hd4
  have S4 := Lib.hid hs4
  have V4 := Lib.hid ((hs4.keep (lt_of_heap N1.out) (by omega)).1.trans N1.out)
  have NV := Lib.hid (show ¬ A4 (w.heap.size + 1) from (hs4.keep (lt_of_heap N1.out) (by omega)).2.2)
  have GE := Lib.hid (show ∀ i, A4 i → w.heap.size ≤ i from fun i hi => (hs4.sub i hi).elim (fun e => by omega) (fun e => by have := NS.out; omega))
  have L4 := Lib.hid (show Below w.heap.size w w4 from ⟨hs4.os.trans LW.out.os, hs4.tape.trans LW.out.tape, hs4.output.trans LW.out.output, Nat.le_trans LW.out.size hs4.size, fun i hi => (hs4.block i (by have := NS.out; omega) (by omega)).trans (LW.out.block i hi)⟩)
  have HKB := Lib.hid (show w.heap.size + 3 ≤ w4.heap.size by have := hs4.size; have := NS.out; omega)
  clear hd4 hs4 FR N0 N1
  gi_wp2
  have HB5 := heap_alloc_at w4 (.cells #[.pointer none, .slice none 0 0] 37)
  have X5 := ext_alloc (.cells #[.pointer none, .slice none 0 0] 37) (ext_refl w4)
  have e5 : (w4.alloc (.cells #[.pointer none, .slice none 0 0] 37)).heap.size = w4.heap.size + 1 := by simp
  generalize w4.alloc (.cells #[.pointer none, .slice none 0 0] 37) = w5 at HB5 X5 e5 ⊢
  refine ⟨trivial, ?_⟩
  refine ((callsIn_wide (n := 3)).2 (trimS_any t w5 (by omega))).mono ?_
  rintro _ w5' ⟨rfl, hw5⟩
  rw [hw5]
  clear hw5
  gi_wp2
  refine ⟨trivial, ?_⟩
  refine ((callsIn_wide (n := 3)).2 (splitSeq_any (trimT t) w5)).mono ?_
  rintro _ w6 ⟨rfl, hbx, e6, X6⟩
  have hts := trimT_size t
  have X56 := ext_trans X5 X6
  have D6 : dkIn w6 A4 w.heap.size 0 (newM ⟨#[]⟩) := D4.out.ext X56
  have B56 := ext_iff.1 X56
  have HB6 : w6.heap[w4.heap.size]? = _ := ((ext_iff.1 X6).block _ (by omega)).trans HB5
  rw [e5] at hbx e6 ⊢
  generalize hbb : w4.heap.size = bb at *
  have I0 : sesAt w w.heap.size bb (fun i => bb + 1 ≤ i ∧ i ≤ bb + 5) [] w6 A4 (.slice none 0 0) := by
    have hlt : ∀ i, A4 i → i < bb := fun i hi => by have := D4.out.lt i hi; omega
    refine ⟨D6, GE.out, (B56.block _ (by have := lt_of_heap V4.out; omega)).trans V4.out, ⟨_, HB6, .inl rfl, ⟨rfl, .inl ⟨rfl, rfl⟩⟩⟩, fun i hi => ⟨fun h => by have := hlt i h; omega, (by intro h; cases h)⟩, ⟨NV.out, fun h => by have := hlt bb h; omega, fun g hg => by cases hg⟩, L4.out.trans (B56.mono (by have := HKB.out; omega))⟩
  have HK := HKB.out
  clear HB5 X5 e5 X6 X56 D6 B56 HB6 D4 S4 V4 NV GE L4 NS LW HKB hbb
  gi_wp2
  refine wpIn_split (bb + 1) (bb + 1 + 1) (bb + 1 + 2) (trimT t) (by omega) rfl rfl hbx (fun acc A => ∃ Dk v, sesAt w w.heap.size bb (fun i => bb + 1 ≤ i ∧ i ≤ bb + 5) acc A Dk v) ⟨_, _, I0⟩ ?_ ?_ ?_
  · rintro acc A B row ⟨Dk, v, h⟩ g hr
    rw [e6] at hr
    exact ⟨Dk, v, h.grow g (fun r e => by rcases hr r e with h | h <;> (subst h; exact ⟨⟨by omega, by omega⟩, by omega, by omega, by omega⟩))⟩
  · intro acc u x A hi hb hx1 hx2 hz
    rw [e6] at hz ⊢
    gi_wp2
    refine ⟨trivial, fun o => ?_⟩
    obtain ⟨Dk, v, hS⟩ := hi
    have G2 : A.grownBy (A.putObj (bb + 1 + 3 + 1) o) (some (bb + 1 + 3 + 1)) := grownBy_putObj' A _ _
    have S2 := hS.grow G2 (fun r e => by injection e with e; subst e; exact ⟨⟨by omega, by omega⟩, by omega, by omega, by omega⟩)
    have b2 : boxAt (A.putObj (bb + 1 + 3 + 1) o) (bb + 1) (bb + 1 + 1) (bb + 1 + 2) u := ⟨(G2.block _ (lt_of_heap hb.s_) (by intro e; injection e with e; omega)).trans hb.s_, (G2.block _ (lt_of_heap hb.p_) (by intro e; injection e with e; omega)).trans hb.p_, (G2.block _ (lt_of_heap hb.k_) (by intro e; injection e with e; omega)).trans hb.k_, hb.ne⟩
    have hz2 := Nat.le_trans hz G2.size
    clear hS hb hz G2 I0 hbx
    generalize A.putObj (bb + 1 + 3 + 1) o = A2 at S2 b2 hz2 ⊢
    obtain ⟨hIV, hOS⟩ := sess_facts acc
    have hls := line_size hIV x
    have LN := line_any x A2 Dk w.heap.size (200 * acc.length) (sessP acc).2 S2.dk hIV (glob_low G.out rfl S2.low (fun i hi => ⟨S2.ge i hi, S2.dk.lt i hi⟩)) (by omega) (by omega)
    have c0 := box_one S2.var
    have lv := lt_of_heap S2.var
    have H2 := Lib.hid S2
    have B2 := Lib.hid b2
    have HZ := Lib.hid hz2
    have HX := Lib.hid (show sessP (acc ++ [x]) = ((sessP acc).1 ++ ((lineA (sessP acc).2 x).1 ++ ⟨#[10]⟩), (lineA (sessP acc).2 x).2) from sessP_snoc acc x)
    have hol : (sessP acc).1.data.toList.length = (sessP acc).1.size := by rw [Array.length_toList]; rfl
    clear S2 b2 hz2 hIV
    gi_wp2
    refine ⟨trivial, ?_⟩
    refine (CallsIn.inRound _ ((callsIn_wide (n := 0)).2 LN)).mono ?_
    rintro _ A3 ⟨rfl, Dk3, hd3, st3⟩
    have kR : ∀ i, bb + 1 ≤ i → i ≤ bb + 5 → A3.heap[i]? = A2.heap[i]? ∧ ¬ Dk3 i := fun i h1 h2 => by
      have := st3.keep (by have := HZ.out; omega : i < A2.heap.size) (H2.out.offR i ⟨h1, h2⟩).1
      exact ⟨this.1, this.2.2⟩
    have kv := st3.keep (lt_of_heap H2.out.var) H2.out.off.1
    have kb := st3.keep H2.out.bld.lt H2.out.off.2.1
    have kg : ∀ g, v.ownBlock = some g → A3.heap[g]? = A2.heap[g]? ∧ ¬ Dk3 g := fun g hg => by
      have := st3.keep (H2.out.bld.base hg).2.1 (H2.out.off.2.2 g hg).1
      exact ⟨this.1, this.2.2⟩
    have BW := fun s hs => bwrite_any w.heap.size bb v (sessP acc).1.data.toList s A3 (H2.out.bld.stay kb.1 (fun g hg => (kg g hg).1)) hs (Nat.le_trans (by have := HZ.out; omega) st3.size)
    have D3 := Lib.hid hd3
    have GE3 := Lib.hid (show ∀ i, Dk3 i → w.heap.size ≤ i from fun i hi => (st3.sub i hi).elim (H2.out.ge i) (fun e => by have := HZ.out; omega))
    have L3 := Lib.hid (show Below w.heap.size w A3 from ⟨st3.os.trans H2.out.low.os, st3.tape.trans H2.out.low.tape, st3.output.trans H2.out.low.output, Nat.le_trans H2.out.low.size st3.size, fun i hi => (st3.block i (by have := HZ.out; omega) (fun h => by have := H2.out.ge i h; omega)).trans (H2.out.low.block i hi)⟩)
    have V3 := Lib.hid (kv.1.trans H2.out.var)
    have NV3 := Lib.hid (show ¬ Dk3 (w.heap.size + 1) ∧ ¬ Dk3 bb from ⟨kv.2.2, kb.2.2⟩)
    have KR := Lib.hid kR
    have KG := Lib.hid kg
    have HZ3 := Lib.hid (Nat.le_trans HZ.out st3.size)
    clear hd3 st3 kv kb kR kg LN c0 lv
    gi_wp2
    refine ⟨trivial, ?_⟩
    refine (CallsIn.inRound _ ((callsIn_wide (n := 0)).2 (BW _ (by rw [app_size]; have e : (⟨#[10]⟩ : ByteArray).size = 1 := rfl; omega)))).mono ?_
    rintro _ A4 ⟨rfl, v4, hb4, hat, h1, h2, h3, h4, h5⟩
    gi_wp2
    have k4 : ∀ i, bb + 1 ≤ i → i ≤ bb + 5 → A4.heap[i]? = A2.heap[i]? := fun i ha hb => (h5 i (by have := HZ3.out; omega) (by omega) (H2.out.offR i ⟨ha, hb⟩).2).trans (KR.out i ha hb).1
    refine ⟨k4 _ (by omega) (by omega), k4 _ (by omega) (by omega), ⟨Dk3, v4, ?_⟩, ⟨(k4 _ (by omega) (by omega)).trans B2.out.s_, (k4 _ (by omega) (by omega)).trans B2.out.p_, (k4 _ (by omega) (by omega)).trans B2.out.k_, B2.out.ne⟩⟩
    have hD4 : ∀ i, Dk3 i → A4.heap[i]? = A3.heap[i]? := fun i hi => h5 i (D3.out.lt i hi) (fun e => NV3.out.2 (e ▸ hi)) (fun e => (KG.out i e).2 hi)
    refine ⟨?_, GE3.out, (h5 _ (lt_of_heap V3.out) (by omega) (fun e => (H2.out.off.2.2 _ e).2.1 rfl)).trans V3.out, ?_, fun i hi => ⟨(KR.out i hi.1 hi.2).2, ?_⟩, ⟨NV3.out.1, NV3.out.2, fun g hg => ?_⟩, ?_⟩
    · rw [HX.out, List.length_append, List.length_singleton, Nat.mul_add]
      exact D3.out.same hD4 h4
    · rw [HX.out, app_list]
      exact hb4
    · rcases hat with h | h
      · rw [h]; exact (H2.out.offR i hi).2
      · intro e
        have := h i e
        have := HZ3.out
        omega
    · obtain ⟨g1, g2, g3⟩ := hb4.base hg
      rcases hat with h | h
      · rw [h] at hg
        exact ⟨(KG.out g hg).2, (H2.out.off.2.2 g hg).2.1, g2⟩
      · have hge := h g hg
        exact ⟨fun e => by have := D3.out.lt g e; omega, (by have := HZ3.out; omega), g2⟩
    · exact ⟨h1.trans L3.out.os, h2.trans L3.out.tape, h3.trans L3.out.output, Nat.le_trans L3.out.size h4, fun i hi => (h5 i (by have := HZ3.out; omega) (by omega) (fun e => by have := (H2.out.bld.base e).1; omega)).trans (L3.out.block i hi)⟩
  · rintro A ⟨Dk, v, hS⟩ hk
    rw [e6] at hk ⊢
    have ISB : Lib.IsBuilderF 37 5 w.heap.size bb (Lib.byteCells (sessP (linesB (trimT t))).1.data.toList) A := by
      obtain ⟨p, h1, h2, h3⟩ := hS.bld
      have hne := own_ne h3 h1
      have hat : ∀ p, A.heap[bb]? = some (.cells #[p, v] 37 (0, 0)) → Lib.BuilderAt 37 5 w.heap.size bb p (Lib.byteCells (sessP (linesB (trimT t))).1.data.toList) A := fun p hp =>
        ⟨by omega, v, hp, by rw [Lib.byteCells_length]; exact h3, hne⟩
      refine Lib.IsBuilderF.of ?_
      rcases h2 with rfl | rfl
      · exact .inl (hat _ h1)
      · exact .inr (hat _ h1)
    have SB := Tryz.Builder_String_any_k w.heap.size bb (sessP (linesB (trimT t))).1.data.toList A ISB hS.low.size
    have hse : (⟨(sessP (linesB (trimT t))).1.data.toList.toArray⟩ : ByteArray) = sessB t := rfl
    rw [hse] at SB
    have L4 := Lib.hid hS.low
    have HK := Lib.hid hk
    clear ISB hS hk I0 hbx hse
    gi_wp2
    refine ⟨trivial, ?_⟩
    refine ((callsIn_wide (n := 3)).2 SB).mono ?_
    rintro _ A7 ⟨rfl, _, hb7, hok⟩
    have HK7 : A7.heap[bb + 1 + 3]? = some (.deferred (some [])) := hok _ _ HK.out (by intro e; injection e with e; omega) (fun c fz e => by cases e)
    have L7 := Lib.hid (L4.out.trans hb7)
    clear SB hb7 hok
    gi_wp2
    refine ⟨by simp, .inl ⟨_, _, rfl, run_takeDeferred HK7, ?_⟩⟩
    refine ⟨_, results_tmp rfl _ _ _, ?_⟩
    have GD : A7.grownBy (A7.putObj (bb + 1 + 3) (.deferred none)) (some (bb + 1 + 3)) := grownBy_putObj' A7 _ _
    exact ⟨rfl, ext_of (L7.out.grown GD L7.out.size (by rintro _ ⟨⟩; omega))⟩
end Go.Proofs.YtnkmckdefiblhaaGreatDoor
