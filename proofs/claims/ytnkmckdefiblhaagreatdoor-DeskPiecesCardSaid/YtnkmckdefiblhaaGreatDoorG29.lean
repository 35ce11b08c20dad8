/- (*vault.Vault).Subjects: the keys of a map (the walk, by the kit's contracts of slices.Sorted and maps.Keys). · The desk in memory. -/
import Derived.Test.YtnkmckdefiblhaaGreatDoorProg
import Derived.Test.YtnkmckdefiblhaaGreatDoorG5
import Derived.Test.YtnkmckdefiblhaaGreatDoorShelfZ
import Derived.Shelf.SlIter.Nil
import Derived.Shelf.SortM.Plain
import Derived.Shelf.SortM.SortNone
import Derived.Test.YtnkmckdefiblhaaGreatDoorG27
import Derived.Test.YtnkmckdefiblhaaGreatDoorG28
namespace Go.Proofs.YtnkmckdefiblhaaGreatDoor
open Go.RowKit Go.Maps Go.Sort Go.Shelf

theorem sortsM (m : Nat) : AnyZ.SortsIn Tryz.prog Tryz.sortedM_ren Fence.wide m :=
  ⟨fun blk off cap ss W hH hblk hsz => callsIn_wide.2 (AnyM.slices_Sort_string Tryz.sortM blk off cap ss W hH hblk hsz),
   fun p cap W => callsIn_wide.2 (AnyM.slices_Sort_string_none Tryz.sortM p cap W)⟩
set_option maxRecDepth 100000 in
set_option maxHeartbeats 2000000 in
theorem subjects_raw (w : World) (vb mb tb n : Nat) (sec : ByteArray) (M : List (ByteArray × I64)) (T : List (ByteArray × Txt)) (h : vaultAt w vb mb tb n sec M T) (hn : n ≤ 1048576) :
    Calls Tryz.prog 71 #[.pointer (some ⟨vb, 0, none⟩)] w fun e w' => ∃ (v : Value) (ss : List (List UInt8)), e = .returned v ∧ ss.Perm (T.map fun p => txt p.1) ∧ ss.length ≤ n ∧
      w'.ownsRow w.heap.size 9 1 v ss.length ((ss.mergeSort (fun x y => decide (x ≤ y))).map encStr) ∧ Below w.heap.size w w' := by
  refine (callsIn_wide (n := 6)).1 ?_
  obtain ⟨es, hown, hper⟩ := h.there.own
  have hlen : es.length ≤ n := by rw [hper.length_eq, List.length_map]; exact h.there.len_le
  have hkey : (strKeys (H := Unit) (.map es)).Perm (T.map fun p => txt p.1) := by
    have h1 := hper.map (fun p : Lit × DataW Unit => strOf p.1)
    rw [List.map_map] at h1
    exact h1
  have hmax : Maps.size (H := Unit) (.map es) ≤ maxLen := by unfold maxLen; show es.length ≤ _; omega
  have hbytes : Maps.size (H := Unit) (.map es) * 16 ≤ 140737488355328 := by show es.length * 16 ≤ _; omega
  have hbl := hown.lt
  have hseq : SeqGives Fence.wide 2 Tryz.prog 134 #[.pointer (some ⟨w.heap.size, 0, none⟩)] encStr (fun ss => ss.Perm (strKeys (H := Unit) (.map es))) (Maps.size (H := Unit) (.map es)) (w.alloc (.cells #[.map (some tb)] 85)) :=
    AnyZ.keys_gives (ρ := Tryz.keysM_ren) { Tryz.keysM with } Fence.wide _ trivial rfl (by omega) w.heap.size tb n (.map es) _ (by simp) (by simp) (by
      obtain ⟨es', clock, hb, Ft, hs, hD⟩ := hown
      exact ⟨es', clock, (Below.heap_alloc _ _ tb hbl).trans hb, Ft, hs, hD⟩)
  have cK : ∀ mb W, CallsIn Fence.wide 5 Tryz.prog 102 #[.map mb] W fun e w' => e = .returned (.func (.func 134) #[] #[.pointer (some ⟨W.heap.size, 0, none⟩)]) ∧ w' = W.alloc (.cells #[.map mb] 85) := fun mb W => AnyZ.keys_in Tryz.keysM Fence.wide 5 trivial rfl mb W
  have cS := AnyZ.sorted_in Tryz.sortedM Fence.wide 5 trivial trivial trivial trivial rfl (by omega) (sortsM _) (enters_of Tryz.func133 (by kernel_rfl) rfl) 134 #[.pointer (some ⟨w.heap.size, 0, none⟩)] trivial (enters_of Tryz.func134 (by kernel_rfl) rfl) _ _ hmax hbytes _ hseq
  change CallsIn _ _ Tryz.prog 101 _ _ _ at cS
  have hfK : Fence.wide.fn 102 := trivial
  have hfS : Fence.wide.fn 101 := trivial
  have hblk := h.blk
  have c2 : w.cell? ⟨vb, 2, none⟩ = some (.map (some tb)) := by rw [cell_in, hblk]; rfl
  have lt := lt_of_heap hblk
  have HK := Lib.hid hkey
  have HTL := Lib.hid h.there.len_le
  clear hown hper hlen hkey hmax hbytes hbl hseq hblk h
  refine callsIn_of_wp Tryz.func71 rfl trivial ?_ rfl
  simp only [Tryz.ntmps71, List.size_toArray, List.length_cons, List.length_nil, Nat.reduceAdd, Nat.reduceSub, Array.replicate_succ, Array.replicate_zero, List.push_toArray, List.append_toArray, List.nil_append, List.cons_append]
  gi_wp2_with (first
    | (gi_at_call 102; refine (cK _ _).mono ?_; rintro e w' ⟨rfl, rfl⟩)
    | (gi_at_call 101; refine cS.mono ?_; rintro e w' ⟨v, ss, rfl, hS, hrow, hnil, hb⟩))
  go_ret
  exact ⟨v, ss, rfl, hS.trans HK.out, by rw [(hS.trans HK.out).length_eq, List.length_map]; exact HTL.out, ownsRow_base_a hrow (by simp), ((Below.refl _ w).alloc (Nat.le_refl _) _).trans (hb.mono (by simp))⟩
end Go.Proofs.YtnkmckdefiblhaaGreatDoor
namespace Go.Proofs.YtnkmckdefiblhaaGreatDoor
open Go.RowKit Go.Shelf

/-! ### Pointers to readers as a map's elements -/
def encP : Option Nat → Value
  | none => .pointer none
  | some b => .pointer (some ⟨b, 0, none⟩)
theorem encP_inj {x y : Option Nat} (h : encP x = encP y) : x = y := by
  cases x <;> cases y
  · rfl
  · cases h
  · cases h
  · unfold encP at h; injection h with h; injection h with h; injection h with h; rw [h]
open Classical in
noncomputable def RP (v : Value) : Option (DataW Unit × List MemPlace) := if h : ∃ x, v = encP x then some (datF h.choose, []) else none
theorem RP_enc (x : Option Nat) : RP (encP x) = some (datF x, []) := by
  have h : ∃ y, encP x = encP y := ⟨x, rfl⟩
  unfold RP
  rw [dif_pos h, ← encP_inj h.choose_spec]
theorem elemRd : ElemOf 110 (Option Nat) encP datF RP none where
  lay x := RP_enc x
  inv v y h := by
    unfold RP at h
    split at h
    · rename_i hx
      injection h with h
      exact ⟨hx.choose, hx.choose_spec, h.symm⟩
    · cases h
  inj x y h := by
    cases x <;> cases y
    · rfl
    · injection h with h; injection h with _ h; omega
    · injection h with h; injection h with _ h; omega
    · injection h with h; injection h with _ h; rw [Int.ofNat_inj.1 h]
  zero w := by kernel_rfl
/-! ### Parts -/
inductive Lab where
  | d | m | f | k
  | r (s : ByteArray)
open Classical in
noncomputable def updL (own : Lab → Blk) (a : Lab) (B : Blk) : Lab → Blk := fun b => if b = a then B else own b
theorem updL_same (own : Lab → Blk) (a : Lab) (B : Blk) : updL own a B a = B := if_pos rfl
theorem updL_other (own : Lab → Blk) {a b : Lab} (B : Blk) (h : b ≠ a) : updL own a B b = own b := if_neg h
def whole (own : Lab → Blk) : Blk := fun i => ∃ a, own a i
structure parts (w : World) (own : Lab → Blk) : Prop where
  ap : ∀ a b, a ≠ b → apart (own a) (own b)
  lt : ∀ a i, own a i → i < w.heap.size
theorem parts.wlt {w : World} {own : Lab → Blk} (h : parts w own) : ∀ i, whole own i → i < w.heap.size := fun i ⟨a, ha⟩ => h.lt a i ha
theorem parts.turn {w w' : World} {own : Lab → Blk} {a : Lab} {B : Blk} (h : parts w own) (g : step w w' (own a) B) : parts w' (updL own a B) := by
  have hlt : ∀ b i, b ≠ a → own b i → i < w'.heap.size := fun b i _ hi => Nat.lt_of_lt_of_le (h.lt b i hi) g.size
  have hB : ∀ b, b ≠ a → apart B (own b) := fun b hb => g.apart (h.ap a b (fun e => hb e.symm)) (h.lt b)
  refine ⟨fun b c hbc => ?_, fun b i hi => ?_⟩
  · by_cases e1 : b = a
    · subst e1
      rw [updL_same, updL_other _ _ (fun e => hbc e.symm)]
      exact hB c (fun e => hbc e.symm)
    · by_cases e2 : c = a
      · subst e2
        rw [updL_same, updL_other _ _ e1]
        exact (hB b e1).symm
      · rw [updL_other _ _ e1, updL_other _ _ e2]
        exact h.ap b c hbc
  · by_cases e1 : b = a
    · subst e1
      rw [updL_same] at hi
      rcases g.sub i hi with h1 | h1
      · exact Nat.lt_of_lt_of_le (h.lt _ i h1) g.size
      · exact h1.2
    · rw [updL_other _ _ e1] at hi
      exact hlt b i e1 hi
theorem step.whole {w w' : World} {own : Lab → Blk} {a : Lab} {B : Blk} (g : step w w' (own a) B) : step w w' (Go.Proofs.YtnkmckdefiblhaaGreatDoor.whole own) (Go.Proofs.YtnkmckdefiblhaaGreatDoor.whole (updL own a B)) := by
  refine (g.lift (A := Go.Proofs.YtnkmckdefiblhaaGreatDoor.whole own) (fun i hi => ⟨a, hi⟩)).more (fun i hi => ?_)
  obtain ⟨b, hb⟩ := hi
  by_cases e : b = a
  · subst e
    rw [updL_same] at hb
    exact .inl (.inr hb)
  · rw [updL_other _ _ e] at hb
    exact .inl (.inl ⟨b, hb⟩)
theorem step.new_in {w w' : World} {B : Blk} (F : Blk) (g : step w w' none0 B) : step w w' F B :=
  ⟨g.os, g.tape, g.output, g.size, fun i hi _ => g.block i hi (fun h => h), fun i hi => (g.sub i hi).imp (fun h => h.elim) id⟩
/-- What stays where that part alone turns. -/
theorem parts.stays {w w' : World} {own : Lab → Blk} {a : Lab} {B : Blk} (h : parts w own) (g : step w w' (own a) B) {b : Lab} (hb : b ≠ a) : ∀ i, own b i → w'.heap[i]? = w.heap[i]? :=
  g.kept (h.ap a b (fun e => hb e.symm)) (h.lt b)
/-! ### The desk -/
theorem cellsIn_stay {w w' : World} {q : Option Addr} {l : List Cell} (h : cellsIn w q l) (hk : ∀ g, q = some ⟨g, 0, none⟩ → w'.heap[g]? = w.heap[g]?) (hs : w.heap.size ≤ w'.heap.size) : cellsIn w' q l := by
  rcases h with h | ⟨g, hq, hg, hc⟩
  · exact .inl h
  · refine .inr ⟨g, hq, Nat.lt_of_lt_of_le hg hs, fun j hj i v hi => ?_⟩
    have := hc j hj i v hi
    rw [cell_in] at this ⊢
    rw [hk g hq]; exact this
structure dkAt (w : World) (own : Lab → Blk) (db n : Nat) (M : DkM) (sb vb mb : Nat) (V : Blk) (rb : ByteArray → Nat) (q : Option Addr) (c : Nat) : Prop where
  prt : parts w own
  odb : own .d db
  blk : w.heap[db]? = some (.cells #[.pointer (some ⟨sb, 0, none⟩), .map (some mb), .int .i64 M.k.seq, .string M.k.mark, .slice q M.k.rows.length c, .int .i64 M.k.lost] 31 (0, 0))
  rows : cellsIn w q M.k.rows
  krow : ∀ g, q = some ⟨g, 0, none⟩ → own .k g
  src : srcIn w V (own .f) sb vb n M.sec M.S
  omb : own .m mb
  map : ∃ P, mapS datF RP w mb n P ∧ ∀ s, findS s P = (M.rd s).map fun _ => some (rb s)
  at_ : ∀ s R, M.rd s = some R → rdIn w (own (.r s)) (rb s) vb n R
def dkIn (w : World) (A : Blk) (db n : Nat) (M : DkM) : Prop := ∃ own sb vb mb V rb q c, dkAt w own db n M sb vb mb V rb q c ∧ A = whole own
section
variable {w w' : World} {own : Lab → Blk} {db n : Nat} {M : DkM} {sb vb mb : Nat} {V : Blk} {rb : ByteArray → Nat} {q : Option Addr} {c : Nat}
theorem dkAt.same (h : dkAt w own db n M sb vb mb V rb q c) (hk : ∀ i, whole own i → w'.heap[i]? = w.heap[i]?) (hs : w.heap.size ≤ w'.heap.size) : dkAt w' own db n M sb vb mb V rb q c := by
  obtain ⟨P, h1, h2⟩ := h.map
  exact ⟨⟨h.prt.ap, fun a i hi => Nat.lt_of_lt_of_le (h.prt.lt a i hi) hs⟩, h.odb, (hk _ ⟨_, h.odb⟩).trans h.blk, cellsIn_stay h.rows (fun g hg => hk g ⟨_, h.krow g hg⟩) hs, h.krow,
    h.src.same (fun i hi => hk i ⟨_, hi⟩) hs, h.omb, ⟨P, h1.same (hk _ ⟨_, h.omb⟩), h2⟩, fun s R hR => (h.at_ s R hR).same (fun i hi => hk i ⟨_, hi⟩) hs⟩
theorem dkAt.ext (h : dkAt w own db n M sb vb mb V rb q c) (hx : ∃ x, w' = Go.Proofs.YtnkmckdefiblhaaGreatDoor.ext w x) : dkAt w' own db n M sb vb mb V rb q c :=
  h.same (fun i hi => (ext_iff.1 hx).block i (h.prt.wlt i hi)) (ext_iff.1 hx).size
theorem dkAt.mono {n' : Nat} (h : dkAt w own db n M sb vb mb V rb q c) (hn : n ≤ n') : dkAt w own db n' M sb vb mb V rb q c := by
  obtain ⟨P, h1, h2⟩ := h.map
  exact ⟨h.prt, h.odb, h.blk, h.rows, h.krow, h.src.mono hn, h.omb, ⟨P, h1.mono hn, h2⟩, fun s R hR => (h.at_ s R hR).mono hn⟩
theorem lab_r {s t : ByteArray} (h : s ≠ t) : Lab.r s ≠ Lab.r t := fun e => h (by injection e)
/-- The source has turned. -/
theorem dkAt.turnF {F' : Blk} {S' : SrcM} {ok' : List Ev} {n' : Nat} (h : dkAt w own db n M sb vb mb V rb q c) (hn : n ≤ n') (hs : srcIn w' V F' sb vb n' M.sec S') (g : step w w' (own .f) F') :
    dkAt w' (updL own .f F') db n' { M with S := S', ok := ok' } sb vb mb V rb q c := by
  obtain ⟨P, h1, h2⟩ := h.map
  have hk : ∀ b, b ≠ .f → ∀ i, own b i → w'.heap[i]? = w.heap[i]? := fun b hb => h.prt.stays g hb
  have ho : ∀ b, b ≠ .f → updL own .f F' b = own b := fun b hb => updL_other _ _ hb
  refine ⟨h.prt.turn g, by rw [ho _ (by nofun)]; exact h.odb, (hk .d (by nofun) _ h.odb).trans h.blk, cellsIn_stay h.rows (fun g hg => hk .k (by nofun) g (h.krow g hg)) g.size, by rw [ho _ (by nofun)]; exact h.krow,
    by rw [updL_same]; exact hs, by rw [ho _ (by nofun)]; exact h.omb, ⟨P, (h1.same (hk .m (by nofun) _ h.omb)).mono hn, h2⟩, fun s R hR => ?_⟩
  rw [ho _ (by nofun)]
  exact ((h.at_ s R hR).same (fun i hi => hk (.r s) (by nofun) i hi) g.size).mono hn
/-- A reader has turned. -/
theorem dkAt.turnR {D' : Blk} {R R' : RdM} {n' : Nat} {s : ByteArray} (h : dkAt w own db n M sb vb mb V rb q c) (hn : n ≤ n') (hr : M.rd s = some R) (hs : rdIn w' D' (rb s) vb n' R') (g : step w w' (own (.r s)) D') :
    dkAt w' (updL own (.r s) D') db n' (setR M s R') sb vb mb V rb q c := by
  obtain ⟨P, h1, h2⟩ := h.map
  have hk : ∀ b, b ≠ .r s → ∀ i, own b i → w'.heap[i]? = w.heap[i]? := fun b hb => h.prt.stays g hb
  have ho : ∀ b, b ≠ .r s → updL own (.r s) D' b = own b := fun b hb => updL_other _ _ hb
  refine ⟨h.prt.turn g, by rw [ho _ (by nofun)]; exact h.odb, (hk .d (by nofun) _ h.odb).trans h.blk, cellsIn_stay h.rows (fun g hg => hk .k (by nofun) g (h.krow g hg)) g.size, by rw [ho _ (by nofun)]; exact h.krow,
    by rw [ho _ (by nofun)]; exact (h.src.same (fun i hi => hk .f (by nofun) i hi) g.size).mono hn, by rw [ho _ (by nofun)]; exact h.omb, ⟨P, (h1.same (hk .m (by nofun) _ h.omb)).mono hn, fun t => ?_⟩, fun t U hU => ?_⟩
  · show findS t P = (updS M.rd s (some R') t).map _
    rw [h2 t]
    by_cases e : t = s
    · subst e; rw [updS_same, hr]; rfl
    · rw [updS_other _ _ e]
  · change updS M.rd s (some R') t = some U at hU
    by_cases e : t = s
    · subst e
      rw [updS_same] at hU
      injection hU with hU
      subst hU
      rw [updL_same]; exact hs
    · rw [updS_other _ _ e] at hU
      rw [ho _ (lab_r e)]
      exact ((h.at_ t U hU).same (fun i hi => hk (.r t) (lab_r e) i hi) g.size).mono hn
theorem setR_same {M : DkM} {s : ByteArray} {R : RdM} (h : M.rd s = some R) : setR M s R = M := by
  obtain ⟨a, b, c, rd, k⟩ := M
  unfold setR
  dsimp only at h ⊢
  congr
  funext t
  by_cases e : t = s
  · subst e; rw [updS_same, h]
  · rw [updS_other _ _ e]
/-- A reader that is new lies in memory, and is named in the map. -/
theorem dkAt.putR {w1 : World} {B : Blk} {b : Nat} {R : RdM} {n' : Nat} {s : ByteArray} (h : dkAt w own db n M sb vb mb V rb q c) (hn : n < n') (hs : rdIn w1 B b vb n' R) (g : step w w1 none0 B) (hsz : s.size ≤ maxLen) (hnm : n < maxLen) :
    ∃ w', (Instr.mapUpdate 26 (.map (some mb)) (.string s) (.pointer (some ⟨b, 0, none⟩))).run Tryz.prog w1 = .ok () w' ∧ w1.grownBy w' (some mb) ∧
      step w w' (whole own) (whole (updL own (.r s) B)) ∧ dkAt w' (updL own (.r s) B) db n' (setR M s R) sb vb mb V (updS rb s b) q c := by
  classical
  have g' : step w w1 (own (.r s)) B := g.new_in _
  have hk : ∀ a i, own a i → w1.heap[i]? = w.heap[i]? := fun a i hi => g.block i (h.prt.lt a i hi) (fun h => h)
  obtain ⟨P, h1, h2⟩ := h.map
  have h1' := h1.same (hk _ _ h.omb)
  obtain ⟨w', hrun, hput, hg⟩ := h1'.put elemRd Tryz.underlying26 (k := s) (some b) hsz hnm
  have ho : ∀ a, a ≠ .r s → updL own (.r s) B a = own a := fun a ha => updL_other _ _ ha
  have hp1 := h.prt.turn g'
  have hmB : ¬ B mb := fun hb => by
    have := g.new hb
    have := h.prt.lt _ _ h.omb
    omega
  have hm1 : ∀ a i, updL own (.r s) B a i → a ≠ .m → i ≠ mb := fun a i hi ha e => by
    subst e
    by_cases e2 : a = .r s
    · subst e2; rw [updL_same] at hi; exact hmB hi
    · rw [ho a e2] at hi
      exact h.prt.ap _ _ ha i hi h.omb
  have hgm : step w1 w' (updL own (.r s) B .m) (updL own (.r s) B .m) := .of_grown hg (fun j e => by cases e; rw [ho _ (by nofun)]; exact h.omb)
  have hu : updL (updL own (.r s) B) .m (updL own (.r s) B .m) = updL own (.r s) B := by
    funext a
    unfold updL
    by_cases e : a = .m
    · subst e; rw [if_pos rfl]
    · rw [if_neg e]
  have hw2 : step w1 w' (whole (updL own (.r s) B)) (whole (updL own (.r s) B)) := by
    have := hgm.whole
    rwa [hu] at this
  have hprt2 := hp1.turn hgm
  rw [hu] at hprt2
  have hk2 : ∀ a i, own a i → a ≠ .m → a ≠ .r s → w'.heap[i]? = w.heap[i]? := fun a i hi h3 h4 => by
    have hi' : updL own (.r s) B a i := by rw [ho a h4]; exact hi
    refine (hg.block i (hp1.lt a i hi') (fun e => hm1 a i hi' h3 (by injection e))).trans (hk a i hi)
  have hsz' : w.heap.size ≤ w'.heap.size := Nat.le_trans g.size hg.size
  refine ⟨w', hrun, hg, (g'.whole).trans hw2, hprt2, by rw [ho _ (by nofun)]; exact h.odb, (hk2 .d _ h.odb (by nofun) (by nofun)).trans h.blk, cellsIn_stay h.rows (fun g hg => hk2 .k g (h.krow g hg) (by nofun) (by nofun)) hsz', by rw [ho _ (by nofun)]; exact h.krow,
    by rw [ho _ (by nofun)]; exact (h.src.same (fun i hi => hk2 .f i hi (by nofun) (by nofun)) hsz').mono (Nat.le_of_lt hn), by rw [ho _ (by nofun)]; exact h.omb, ⟨_, hput.mono (by omega), fun t => ?_⟩, fun t U hU => ?_⟩
  · show _ = (updS M.rd s (some R) t).map _
    by_cases e : t = s
    · subst e
      rw [put_look, updS_same, updS_same]; rfl
    · rw [put_look_other e, updS_other _ _ e, updS_other _ _ e, h2 t]
  · change updS M.rd s (some R) t = some U at hU
    by_cases e : t = s
    · subst e
      rw [updS_same] at hU
      injection hU with hU
      subst hU
      rw [updL_same, updS_same]
      exact hs.same (fun i hi => hg.block i (hs.lt i hi) (fun e => by injection e with e; subst e; exact hmB hi)) hg.size
    · rw [updS_other _ _ e] at hU
      rw [ho _ (lab_r e), updS_other _ _ e]
      exact ((h.at_ t U hU).same (fun i hi => hk2 (.r t) i hi (by nofun) (lab_r e)) hsz').mono (Nat.le_of_lt hn)
/-- What is kept of a reader lies in new blocks, and the desk's struct is written. -/
theorem dkAt.save {w1 w2 : World} {base : Nat} {R : RdM} {q' : Option Addr} {c' : Nat} (h : dkAt w own db n M sb vb mb V rb q c) (hx : ∃ x, w1 = Go.Proofs.YtnkmckdefiblhaaGreatDoor.ext w x) (ho : ownsCl w1 base (.slice q' (sortC R.T).length c') (sortC R.T)) (hb : w.heap.size ≤ base)
    (hg : w1.grownBy w2 (some db)) (hw : w2.heap[db]? = some (.cells #[.pointer (some ⟨sb, 0, none⟩), .map (some mb), .int .i64 R.seq, .string R.mark, .slice q' (sortC R.T).length c', .int .i64 R.lost] 31 (0, 0))) :
    ∃ K, step w w2 (whole own) (whole (updL own .k K)) ∧ dkAt w2 (updL own .k K) db n { M with k := svOf R } sb vb mb V rb q' c' := by
  classical
  have hbl := ext_iff.1 hx
  let K : Blk := fun i => w.heap.size ≤ i ∧ i < w1.heap.size
  have gK : step w w1 none0 K := (step.of_below none0 hbl).more (fun i hi => .inr hi)
  have gK' : step w w1 (own .k) K := gK.new_in _
  have hp1 := h.prt.turn gK'
  have hoth : ∀ a, a ≠ .k → updL own .k K a = own a := fun a ha => updL_other _ _ ha
  have hd1 : updL own .k K .d = own .d := hoth _ (by nofun)
  have hgd : step w1 w2 (updL own .k K .d) (updL own .k K .d) := .of_grown hg (fun j e => by cases e; rw [hd1]; exact h.odb)
  have hu : updL (updL own .k K) .d (updL own .k K .d) = updL own .k K := by
    funext a
    unfold updL
    by_cases e : a = .d
    · subst e; rw [if_pos rfl]
    · rw [if_neg e]
  have hw2 : step w1 w2 (whole (updL own .k K)) (whole (updL own .k K)) := by
    have := hgd.whole
    rwa [hu] at this
  have hprt2 := hp1.turn hgd
  rw [hu] at hprt2
  have hnd : ∀ a i, updL own .k K a i → a ≠ .d → i ≠ db := fun a i hi ha e => by
    subst e
    exact hp1.ap _ _ ha i hi (by rw [hd1]; exact h.odb)
  have hk2 : ∀ a i, own a i → a ≠ .k → a ≠ .d → w2.heap[i]? = w.heap[i]? := fun a i hi h3 h4 => by
    have hi' : updL own .k K a i := by rw [hoth a h3]; exact hi
    exact (hg.block i (hp1.lt a i hi') (fun e => hnd a i hi' h4 (by injection e))).trans (hbl.block i (h.prt.lt a i hi))
  have hsz' : w.heap.size ≤ w2.heap.size := Nat.le_trans hbl.size hg.size
  have hci := (cellsIn_of ho).1
  obtain ⟨P, h1, h2⟩ := h.map
  have hKq : ∀ g, q' = some ⟨g, 0, none⟩ → K g := fun g hq => by
    obtain ⟨_, ⟨h1, _⟩ | ⟨g', cap', cur, h1, hb', h3⟩⟩ := ho
    · rw [hq] at h1; injection h1 with h1 _ _; cases h1
    · rw [hq] at h1
      injection h1 with h1 _ _
      injection h1 with h1
      injection h1 with h1
      subst h1
      exact ⟨Nat.le_trans hb hb', lt_of_heap h3.1⟩
  refine ⟨K, (gK'.whole).trans hw2, hprt2, by rw [hd1]; exact h.odb, hw, cellsIn_stay hci (fun g hq => ?_) hg.size, by rw [updL_same]; exact hKq,
    by rw [hoth _ (by nofun)]; exact h.src.same (fun i hi => hk2 .f i hi (by nofun) (by nofun)) hsz', by rw [hoth _ (by nofun)]; exact h.omb, ⟨P, h1.same (hk2 .m _ h.omb (by nofun) (by nofun)), h2⟩, fun s U hU => ?_⟩
  · have := hKq g hq
    exact hg.block g this.2 (fun e => by injection e with e; have := h.prt.lt _ _ h.odb; omega)
  · rw [hoth _ (by nofun)]
    exact (h.at_ s U hU).same (fun i hi => hk2 (.r s) i hi (by nofun) (by nofun)) hsz'
end
theorem dkIn.ext {w w' : World} {A : Blk} {db n : Nat} {M : DkM} (h : dkIn w A db n M) (hx : ∃ x, w' = Go.Proofs.YtnkmckdefiblhaaGreatDoor.ext w x) : dkIn w' A db n M := by
  obtain ⟨own, sb, vb, mb, V, rb, q, c, h1, h2⟩ := h
  exact ⟨own, sb, vb, mb, V, rb, q, c, h1.ext hx, h2⟩
theorem dkIn.mono {w : World} {A : Blk} {db n n' : Nat} {M : DkM} (h : dkIn w A db n M) (hn : n ≤ n') : dkIn w A db n' M := by
  obtain ⟨own, sb, vb, mb, V, rb, q, c, h1, h2⟩ := h
  exact ⟨own, sb, vb, mb, V, rb, q, c, h1.mono hn, h2⟩
theorem dkIn.lt {w : World} {A : Blk} {db n : Nat} {M : DkM} (h : dkIn w A db n M) : ∀ i, A i → i < w.heap.size := by
  obtain ⟨own, sb, vb, mb, V, rb, q, c, h1, rfl⟩ := h
  exact h1.prt.wlt
theorem dkIn.same {w w' : World} {A : Blk} {db n : Nat} {M : DkM} (h : dkIn w A db n M) (hk : ∀ i, A i → w'.heap[i]? = w.heap[i]?) (hs : w.heap.size ≤ w'.heap.size) : dkIn w' A db n M := by
  obtain ⟨own, sb, vb, mb, V, rb, q, c, h1, rfl⟩ := h
  exact ⟨own, sb, vb, mb, V, rb, q, c, h1.same hk hs, rfl⟩
/-! ### Words, and what a command does -/
def wordsAt (w : World) (A : Blk) (p : Option Addr) (ws : List ByteArray) : Prop := ∀ j s, ws[j]? = some s → ∃ g o, p = some ⟨g, o, none⟩ ∧ g < w.heap.size ∧ ¬ A g ∧ w.cell? ⟨g, o + j, none⟩ = some (.string s)
theorem wordsAt.step {w w' : World} {A A' : Blk} {p : Option Addr} {ws : List ByteArray} (h : wordsAt w A p ws) (g : Go.Proofs.YtnkmckdefiblhaaGreatDoor.step w w' A A') : wordsAt w' A' p ws := by
  intro j s hj
  obtain ⟨b, o, hp, hb, hn, hc⟩ := h j s hj
  obtain ⟨h1, h2, h3⟩ := g.keep hb hn
  exact ⟨b, o, hp, h2, h3, by rw [cell_in] at hc ⊢; rw [h1]; exact hc⟩
theorem wordsAt.ext {w w' : World} {A : Blk} {p : Option Addr} {ws : List ByteArray} (h : wordsAt w A p ws) (hx : ∃ x, w' = Go.Proofs.YtnkmckdefiblhaaGreatDoor.ext w x) : wordsAt w' A p ws := h.step (.of_ext A hx)
theorem wordsAt.texts {w : World} {A : Blk} {p : Option Addr} {ws : List ByteArray} (h : wordsAt w A p ws) : textsAt w p ws := by
  intro j s hj
  obtain ⟨b, o, hp, hb, _, hc⟩ := h j s hj
  exact ⟨b, o, hp, hb, hc⟩
def ansE : Ans → Ending
  | .ok s => .returned (.string s)
  | .er n => .panicked (thrown n)
def CmdPost (x : Ans × DkM) (w : World) (A : Blk) (db n : Nat) (e : Ending) (w' : World) : Prop := e = ansE x.1 ∧ ∃ A', dkIn w' A' db (n + 200) x.2 ∧ step w w' A A'
/-- The words of a line are not long. -/
def smallW (ws : List ByteArray) : Prop := ws.length ≤ 30000 ∧ (∀ s ∈ ws, s.size ≤ 30000) ∧ (Lib.join (ws.map (·.data.toList)) [32]).length ≤ 30000
structure cmdIn (w : World) (A : Blk) (db n : Nat) (M : DkM) (p : Option Addr) (ws : List ByteArray) (cap : Nat) : Prop where
  dk : dkIn w A db n M
  inv : DkInv M
  glob : GlobD w A
  words : wordsAt w A p ws
  small : smallW ws
  cap_ : ws.length ≤ cap
  n_ : n ≤ 900000
end Go.Proofs.YtnkmckdefiblhaaGreatDoor
