/- Maps with texts as keys, as lists of pairs. · The vault: Key, Forget, New (the walks). · Byte slices that a call makes itself: append, and the string of them. -/
import Derived.Test.YtnkmckdefiblhaaGreatDoorProg
import Derived.Test.YtnkmckdefiblhaaGreatDoorG4
import Derived.Maps.StringElems
import Derived.Test.YtnkmckdefiblhaaGreatDoorG1
namespace Go.Proofs.YtnkmckdefiblhaaGreatDoor
open Go.RowKit Go.WideShapes

theorem lawS : Maps.Keyed Tryz.prog 9 := Maps.string_keyed Tryz.underlying9
theorem keyS_of (k : ByteArray) (hk : k.size ≤ maxLen) : keyOf Tryz.prog 9 (.string k) = some (.string (txt k)) := by
  simp [keyOf, Tryz.underlying9, mapKey, hk, txt]
/-- How a map's elements lie and read. -/
structure ElemOf (e : TypeId) (α : Type) (enc : α → Value) (dat : α → DataW Unit) (R : Value → Option (DataW Unit × List MemPlace)) (z : α) : Prop where
  lay : ∀ x, R (enc x) = some (dat x, [])
  inv : ∀ v y, R v = some y → ∃ x, v = enc x ∧ y = (dat x, [])
  inj : ∀ x y, dat x = dat y → x = y
  zero : ∀ w, (zeroValue e).run Tryz.prog w = .ok (enc z) w
section
variable {t e : TypeId} {α : Type} {enc : α → Value} {dat : α → DataW Unit} {R : Value → Option (DataW Unit × List MemPlace)} {z : α}
def entS (dat : α → DataW Unit) (p : ByteArray × α) : Lit × DataW Unit := (.string (txt p.1), dat p.2)
def findS (k : ByteArray) (M : List (ByteArray × α)) : Option α := (M.find? fun p => decide (txt p.1 = txt k)).map Prod.snd
def delS (k : ByteArray) (M : List (ByteArray × α)) : List (ByteArray × α) := M.filter fun p => !decide (txt p.1 = txt k)
def putS (k : ByteArray) (x : α) (M : List (ByteArray × α)) : List (ByteArray × α) := (k, x) :: delS k M
def OnceS (M : List (ByteArray × α)) : Prop := M.Pairwise fun p q => txt p.1 ≠ txt q.1
/-- A map that holds those pairs. -/
structure mapS (dat : α → DataW Unit) (R : Value → Option (DataW Unit × List MemPlace)) (w : World) (b n : Nat) (M : List (ByteArray × α)) : Prop where
  own : ∃ es, w.ownsMap Tryz.prog 9 R b n (.map es) ∧ es.Perm (M.map (entS dat))
  once : OnceS M
  small : ∀ p ∈ M, p.1.size ≤ maxLen
theorem entS_key (p : ByteArray × α) (k : ByteArray) : (entS dat p).1.sameKey (.string (txt k)) = decide (txt p.1 = txt k) := by
  unfold entS Lit.sameKey
  rw [Bool.eq_iff_iff, decide_eq_true_eq]
  simp
theorem findS_mem {k : ByteArray} {M : List (ByteArray × α)} {x : α} (h : findS k M = some x) : ∃ p ∈ M, txt p.1 = txt k ∧ p.2 = x := by
  unfold findS at h
  obtain ⟨p, hp, rfl⟩ := Option.map_eq_some_iff.1 h
  have h1 := List.find?_some hp
  exact ⟨p, List.mem_of_find?_eq_some hp, by simpa using h1, rfl⟩
theorem findS_none {k : ByteArray} {M : List (ByteArray × α)} (h : findS k M = none) {p : ByteArray × α} (hp : p ∈ M) : txt p.1 ≠ txt k := by
  unfold findS at h
  have h1 := List.find?_eq_none.1 (Option.map_eq_none_iff.1 h) p hp
  simpa using h1
theorem OnceS.eq {M : List (ByteArray × α)} (h : OnceS M) {p q : ByteArray × α} (hp : p ∈ M) (hq : q ∈ M) (he : txt p.1 = txt q.1) : p = q := by
  induction M with
  | nil => cases hp
  | cons a M ih =>
    obtain ⟨h1, h2⟩ := List.pairwise_cons.1 h
    rcases List.mem_cons.1 hp with e1 | hp' <;> rcases List.mem_cons.1 hq with e2 | hq'
    · rw [e1, e2]
    · rw [e1] at he; exact absurd he (h1 q hq')
    · rw [e2] at he; exact absurd he.symm (h1 p hp')
    · exact ih h2 hp' hq'
theorem findS_some {M : List (ByteArray × α)} (h : OnceS M) {p : ByteArray × α} (hp : p ∈ M) : findS p.1 M = some p.2 := by
  cases hf : findS p.1 M with
  | none => exact absurd rfl (findS_none hf hp)
  | some x =>
    obtain ⟨q, hq, hk, rfl⟩ := findS_mem hf
    rw [h.eq hq hp hk]
theorem OnceS.del {M : List (ByteArray × α)} (h : OnceS M) (k : ByteArray) : OnceS (delS k M) := h.sublist List.filter_sublist
theorem OnceS.put {M : List (ByteArray × α)} (h : OnceS M) (k : ByteArray) (x : α) : OnceS (putS k x M) := by
  refine List.Pairwise.cons (fun q hq => ?_) (h.del k)
  have := (List.mem_filter.1 hq).2
  simp only [Bool.not_eq_true', decide_eq_false_iff_not] at this
  exact fun e => this e.symm
theorem atS {es : List (Lit × DataW Unit)} {M : List (ByteArray × α)} (hp : es.Perm (M.map (entS dat))) (ho : OnceS M) (k : ByteArray) (z : α) :
    (DataW.map es).atKey (.string (txt k)) (dat z) = dat ((findS k M).getD z) := by
  unfold DataW.atKey
  dsimp only
  cases hf : es.find? fun p => p.1.sameKey (.string (txt k)) with
  | none =>
    cases hg : findS k M with
    | none => rfl
    | some c =>
      obtain ⟨p, hm, hk, _⟩ := findS_mem hg
      have h1 := List.find?_eq_none.1 hf (entS dat p) (hp.mem_iff.2 (List.mem_map_of_mem hm))
      rw [entS_key, hk] at h1
      simp at h1
  | some q =>
    have h1 := List.find?_some hf
    obtain ⟨p, hm, rfl⟩ := List.mem_map.1 (hp.mem_iff.1 (List.mem_of_find?_eq_some hf))
    rw [entS_key, decide_eq_true_eq] at h1
    have h2 := findS_some ho hm
    have h3 : findS k M = findS p.1 M := by unfold findS; rw [h1]
    rw [h3, h2]
    rfl
theorem hasS {es : List (Lit × DataW Unit)} {M : List (ByteArray × α)} (hp : es.Perm (M.map (entS dat))) (k : ByteArray) : Maps.has (.map es) (.string (txt k)) = (findS k M).isSome := by
  rw [Maps.has_eq]
  cases hg : findS k M with
  | none =>
    rw [Option.isSome_none, Bool.eq_false_iff]
    intro h
    obtain ⟨q, hq1, hq2⟩ := List.any_eq_true.1 h
    obtain ⟨p, hm, rfl⟩ := List.mem_map.1 (hp.mem_iff.1 hq1)
    rw [entS_key, decide_eq_true_eq] at hq2
    exact findS_none hg hm hq2
  | some c =>
    obtain ⟨p, hm, hk, _⟩ := findS_mem hg
    rw [Option.isSome_some]
    exact List.any_eq_true.2 ⟨entS dat p, hp.mem_iff.2 (List.mem_map_of_mem hm), by rw [entS_key, hk]; simp⟩
theorem mapS.look (E : ElemOf e α enc dat R z) (ht : Tryz.prog.underlying t = some (.map 9 e)) {w : World} {b n : Nat} {M : List (ByteArray × α)} (h : mapS dat R w b n M) {k : ByteArray} (hk : k.size ≤ maxLen) :
    (Instr.lookup t (.map (some b)) (.string k) false).run Tryz.prog w = .ok (enc ((findS k M).getD z)) w := by
  obtain ⟨es, hown, hp⟩ := h.own
  obtain ⟨v, ps, hrun, hv⟩ := hown.lookup (t := t) (e := e) lawS ht (E.zero w) (E.lay z) (keyS_of k hk)
  rw [atS hp h.once] at hv
  obtain ⟨x, rfl, hy⟩ := E.inv _ _ hv
  rw [hrun, E.inj _ _ (congrArg Prod.fst hy).symm]
theorem mapS.look_ok (E : ElemOf e α enc dat R z) (ht : Tryz.prog.underlying t = some (.map 9 e)) {w : World} {b n : Nat} {M : List (ByteArray × α)} (h : mapS dat R w b n M) {k : ByteArray} (hk : k.size ≤ maxLen) :
    (Instr.lookup t (.map (some b)) (.string k) true).run Tryz.prog w = .ok (.tuple #[enc ((findS k M).getD z), .bool (findS k M).isSome]) w := by
  obtain ⟨es, hown, hp⟩ := h.own
  obtain ⟨v, ps, hrun, hv⟩ := hown.look_ok (t := t) (e := e) lawS ht (E.zero w) (E.lay z) (keyS_of k hk)
  rw [atS hp h.once] at hv
  obtain ⟨x, rfl, hy⟩ := E.inv _ _ hv
  rw [hrun, hasS hp, E.inj _ _ (congrArg Prod.fst hy).symm]
theorem filterS (M : List (ByteArray × α)) (k : ByteArray) : (M.map (entS dat)).filter (fun p => !p.1.sameKey (.string (txt k))) = (delS k M).map (entS dat) := by
  unfold delS
  rw [List.filter_map]
  congr 1
  apply List.filter_congr
  intro p _
  simp only [Function.comp]
  rw [entS_key]
theorem mapS.put (E : ElemOf e α enc dat R z) (ht : Tryz.prog.underlying t = some (.map 9 e)) {w : World} {b n : Nat} {M : List (ByteArray × α)} (h : mapS dat R w b n M) {k : ByteArray} (x : α) (hk : k.size ≤ maxLen) (hn : n < maxLen) :
    ∃ w', (Instr.mapUpdate t (.map (some b)) (.string k) (enc x)).run Tryz.prog w = .ok () w' ∧ mapS dat R w' b (n + 1) (putS k x M) ∧ w.grownBy w' (some b) := by
  obtain ⟨es, hown, hp⟩ := h.own
  obtain ⟨w', hrun, hown', hg⟩ := hown.update (t := t) (e := e) lawS ht hn (keyS_of k hk) (E.lay x)
  refine ⟨w', hrun, ⟨⟨_, hown', ?_⟩, h.once.put k x, ?_⟩, hg⟩
  · refine (insert_perm _ _).trans ?_
    unfold putS
    rw [List.map_cons]
    refine List.Perm.cons _ ?_
    refine (hp.filter _).trans ?_
    rw [filterS]
  · intro p hp
    rcases List.mem_cons.1 hp with rfl | hp
    · exact hk
    · exact h.small p (List.mem_filter.1 hp).1
theorem mapS.del (ht : Tryz.prog.underlying t = some (.map 9 e)) {w : World} {b n : Nat} {M : List (ByteArray × α)} (h : mapS dat R w b n M) {k : ByteArray} (hk : k.size ≤ maxLen) (ty : TypeId) :
    ∃ w', (Builtin.delete_ #[t, 9] ty #[.map (some b), .string k]).run Tryz.prog w = .ok (.tuple #[]) w' ∧ mapS dat R w' b n (delS k M) ∧ w.grownBy w' (some b) := by
  obtain ⟨es, hown, hp⟩ := h.own
  obtain ⟨w', hrun, hown', hg⟩ := hown.drop (t := t) (e := e) lawS ht (keyS_of k hk) ty
  refine ⟨w', hrun, ⟨⟨_, hown', ?_⟩, h.once.del k, fun p hp => h.small p (List.mem_filter.1 hp).1⟩, hg.grown⟩
  refine (hp.filter _).trans ?_
  rw [filterS]
theorem mapS.made (w : World) : mapS (α := α) dat R (w.alloc (.map #[] 0)) w.heap.size 0 [] :=
  ⟨⟨[], World.ownsMap_made w _ _ _, .refl _⟩, List.Pairwise.nil, fun _ h => by cases h⟩
theorem mapS.kept {w w' : World} {b n : Nat} {M : List (ByteArray × α)} {row : Option Nat} (h : mapS dat R w b n M) (hg : w.grownBy w' row) (hne : some b ≠ row) : mapS dat R w' b n M := by
  obtain ⟨es, hown, hp⟩ := h.own
  exact ⟨⟨es, hown.kept hg hne, hp⟩, h.once, h.small⟩
theorem mapS.lt {w : World} {b n : Nat} {M : List (ByteArray × α)} (h : mapS dat R w b n M) : b < w.heap.size := by
  obtain ⟨es, hown, hp⟩ := h.own
  exact hown.lt
theorem mapS.mono {w : World} {b n n' : Nat} {M : List (ByteArray × α)} (h : mapS dat R w b n M) (hn : n ≤ n') : mapS dat R w b n' M := by
  obtain ⟨es, hown, hp⟩ := h.own
  exact ⟨⟨es, hown.mono hn, hp⟩, h.once, h.small⟩
theorem mapS.len_le {w : World} {b n : Nat} {M : List (ByteArray × α)} (h : mapS dat R w b n M) : M.length ≤ n := by
  obtain ⟨es, hown, hp⟩ := h.own
  have := hown.size_le
  rw [Maps.size_eq, hp.length_eq, List.length_map] at this
  exact this
end
abbrev I64 := { x : Int // (Lit.int .i64 x).wf = true }
theorem elemI : ElemOf 3 I64 (fun x => .int .i64 x.1) (fun x => .lit (.int .i64 x.1)) (plainElem Tryz.prog 3) ⟨0, by decide⟩ where
  lay x := plainElem_int Tryz.underlying3 x.2
  inv _ _ h := by
    obtain ⟨a, h1, h2, h3⟩ := plainElem_int_inv Tryz.underlying3 h
    exact ⟨⟨a, h3⟩, h1, h2⟩
  inj x y h := by injection h with h; injection h with _ h; exact Subtype.ext h
  zero w := by kernel_rfl
abbrev Txt := { s : ByteArray // s.size ≤ maxLen }
theorem elemT : ElemOf 9 Txt (fun x => .string x.1) (fun x => .lit (.string x.1.data.toList)) (plainElem Tryz.prog 9) ⟨⟨#[]⟩, by decide⟩ where
  lay x := plainElem_string Tryz.underlying9 x.2
  inv _ _ h := by
    obtain ⟨a, h1, h2, h3⟩ := plainElem_string_inv Tryz.underlying9 h
    exact ⟨⟨a, h3⟩, h1, h2⟩
  inj x y h := by injection h with h; injection h with h; exact Subtype.ext (txt_inj h)
  zero w := by kernel_rfl
end Go.Proofs.YtnkmckdefiblhaaGreatDoor
namespace Go.Proofs.YtnkmckdefiblhaaGreatDoor
open Go.RowKit

abbrev mapI (w : World) (b n : Nat) (M : List (ByteArray × I64)) : Prop := mapS (fun x : I64 => (.lit (.int .i64 x.1) : DataW Unit)) (plainElem Tryz.prog 3) w b n M
abbrev mapT (w : World) (b n : Nat) (M : List (ByteArray × Txt)) : Prop := mapS (fun x : Txt => (.lit (.string x.1.data.toList) : DataW Unit)) (plainElem Tryz.prog 9) w b n M
/-- A vault: its secret, how many keys each subject had, those that are there. -/
structure vaultAt (w : World) (vb mb tb n : Nat) (sec : ByteArray) (M : List (ByteArray × I64)) (T : List (ByteArray × Txt)) : Prop where
  blk : w.heap[vb]? = some (.cells #[.string sec, .map (some mb), .map (some tb)] 87 (0, 0))
  many : mapI w mb n M
  there : mapT w tb n T
  ne1 : mb ≠ tb
  ne2 : mb ≠ vb
  ne3 : tb ≠ vb
theorem vaultAt.kept {w w' : World} {vb mb tb n : Nat} {sec : ByteArray} {M : List (ByteArray × I64)} {T : List (ByteArray × Txt)} {row : Option Nat} (h : vaultAt w vb mb tb n sec M T) (g : w.grownBy w' row) (h1 : some vb ≠ row) (h2 : some mb ≠ row) (h3 : some tb ≠ row) : vaultAt w' vb mb tb n sec M T :=
  ⟨(g.block vb (lt_of_heap h.blk) h1).trans h.blk, h.many.kept g h2, h.there.kept g h3, h.ne1, h.ne2, h.ne3⟩
theorem vaultAt.ext {w w' : World} {vb mb tb n : Nat} {sec : ByteArray} {M : List (ByteArray × I64)} {T : List (ByteArray × Txt)} (h : vaultAt w vb mb tb n sec M T) (hx : ∃ x, w' = ext w x) : vaultAt w' vb mb tb n sec M T :=
  h.kept (grown_below (ext_iff.1 hx) none) (by simp) (by simp) (by simp)
theorem vaultAt.cells {w : World} {vb mb tb n : Nat} {sec : ByteArray} {M : List (ByteArray × I64)} {T : List (ByteArray × Txt)} (h : vaultAt w vb mb tb n sec M T) :
    w.cell? ⟨vb, 0, none⟩ = some (.string sec) ∧ w.cell? ⟨vb, 1, none⟩ = some (.map (some mb)) ∧ w.cell? ⟨vb, 2, none⟩ = some (.map (some tb)) := by
  refine ⟨?_, ?_, ?_⟩ <;> (rw [cell_in, h.blk]; rfl)
/-- What Key hands back. -/
def keyV (f : Option Txt) (m g : Int) : Value :=
  if (decide (g < 1) || decide (m < g)) = true then .tuple #[.string ⟨#[]⟩, errV 7]
  else if (decide (g < m) || !f.isSome) = true then .tuple #[.string ⟨#[]⟩, errV 8]
  else .tuple #[.string (f.getD ⟨⟨#[]⟩, by decide⟩).1, .nilIface]
set_option maxRecDepth 100000 in
set_option maxHeartbeats 4000000 in
theorem vkey_any (s : ByteArray) (g : Int) (w : World) (vb mb tb n : Nat) (sec : ByteArray) (M : List (ByteArray × I64)) (T : List (ByteArray × Txt)) (h : vaultAt w vb mb tb n sec M T) (hs : s.size ≤ maxLen) :
    Calls Tryz.prog 127 #[.pointer (some ⟨vb, 0, none⟩), .string s, .int .i64 g] w fun r w' => r = .returned (keyV (findS s T) ((findS s M).getD ⟨0, by decide⟩).1 g) ∧ w = w' := by
  obtain ⟨c0, c1, c2⟩ := h.cells
  have l1 := h.many.look elemI Tryz.underlying84 hs
  have l2 := h.there.look_ok elemT Tryz.underlying85 hs
  have hvb := lt_of_heap h.blk
  clear h
  generalize (findS s M).getD ⟨0, by decide⟩ = m at l1 ⊢
  obtain ⟨m, hm⟩ := m
  dsimp only at l1 ⊢
  generalize findS s T = f at l2 ⊢
  have hV : Hid (keyV f m g = keyV f m g) := Lib.hid rfl
  generalize hk : keyV f m g = V
  have HK := Lib.hid hk
  clear hk hV
  unfold keyV at HK
  cases f with
  | none =>
    dsimp only [Option.getD, Option.isSome] at l2 HK
    by_cases h1 : g < 1
    · have hv := HK.out.symm.trans (if_pos (by simp [h1]))
      clear HK
      have hv := Lib.hid hv
      go_enter Tryz.func127, Tryz.ntmps127
      go_wp2_with fail
      go_ret2
      exact ⟨by rw [hv.out]; rfl, rfl⟩
    · by_cases h2 : m < g
      · have hv := Lib.hid (HK.out.symm.trans (if_pos (by simp [h2])))
        clear HK
        go_enter Tryz.func127, Tryz.ntmps127
        go_wp2_with fail
        go_ret2
        exact ⟨by rw [hv.out]; rfl, rfl⟩
      · have hv := Lib.hid ((HK.out.symm.trans (if_neg (by simp; omega))).trans (if_pos (by simp)))
        clear HK
        by_cases h3 : g < m
        all_goals
          go_enter Tryz.func127, Tryz.ntmps127
          go_wp2_with fail
          go_ret2
          exact ⟨by rw [hv.out]; rfl, rfl⟩
  | some k =>
    dsimp only [Option.getD, Option.isSome] at l2 HK
    by_cases h1 : g < 1
    · have hv := Lib.hid (HK.out.symm.trans (if_pos (by simp [h1])))
      clear HK
      go_enter Tryz.func127, Tryz.ntmps127
      go_wp2_with fail
      go_ret2
      exact ⟨by rw [hv.out]; rfl, rfl⟩
    · by_cases h2 : m < g
      · have hv := Lib.hid (HK.out.symm.trans (if_pos (by simp [h2])))
        clear HK
        go_enter Tryz.func127, Tryz.ntmps127
        go_wp2_with fail
        go_ret2
        exact ⟨by rw [hv.out]; rfl, rfl⟩
      · by_cases h3 : g < m
        · have hv := Lib.hid ((HK.out.symm.trans (if_neg (by simp; omega))).trans (if_pos (by simp [h3])))
          clear HK
          go_enter Tryz.func127, Tryz.ntmps127
          go_wp2_with fail
          go_ret2
          exact ⟨by rw [hv.out]; rfl, rfl⟩
        · have hv := Lib.hid ((HK.out.symm.trans (if_neg (by simp; omega))).trans (if_neg (by simp; omega)))
          clear HK
          go_enter Tryz.func127, Tryz.ntmps127
          go_wp2_with fail
          go_ret2
          exact ⟨by rw [hv.out]; rfl, rfl⟩
set_option maxRecDepth 100000 in
set_option maxHeartbeats 4000000 in
theorem vforget_any (s : ByteArray) (w : World) (vb mb tb n : Nat) (sec : ByteArray) (M : List (ByteArray × I64)) (T : List (ByteArray × Txt)) (h : vaultAt w vb mb tb n sec M T) (hs : s.size ≤ maxLen) :
    Calls Tryz.prog 150 #[.pointer (some ⟨vb, 0, none⟩), .string s] w fun r w' => r = .returned (if (findS s T).isSome = true then .nilIface else errV 8) ∧ vaultAt w' vb mb tb n sec M (if (findS s T).isSome = true then delS s T else T) ∧ w.grownBy w' (some tb) := by
  obtain ⟨c0, c1, c2⟩ := h.cells
  have l2 := h.there.look_ok elemT Tryz.underlying85 hs
  obtain ⟨wd, hdel, hm, hg⟩ := h.there.del Tryz.underlying85 hs 0
  have HV := Lib.hid h
  have hvb := lt_of_heap h.blk
  have HD : Hid (vaultAt wd vb mb tb n sec M (delS s T)) := Lib.hid ⟨(hg.block vb hvb (fun e => h.ne3 (by injection e with e; exact e.symm))).trans h.blk, h.many.kept hg (fun e => h.ne1 (by injection e)), hm, h.ne1, h.ne2, h.ne3⟩
  have HG := Lib.hid hg
  clear h hm hg
  generalize (findS s T).getD ⟨⟨#[]⟩, by decide⟩ = k at l2
  obtain ⟨k, hk⟩ := k
  dsimp only at l2
  cases hf : (findS s T).isSome with
  | false =>
    rw [hf] at l2
    clear hf hdel HD
    go_enter Tryz.func150, Tryz.ntmps150
    go_wp2_with fail
    go_ret
    exact ⟨rfl, HV.out, grown_refl _ _⟩
  | true =>
    rw [hf] at l2
    clear hf
    go_enter Tryz.func150, Tryz.ntmps150
    go_wp2_with fail
    go_ret
    exact ⟨rfl, HD.out, HG.out⟩
set_option maxRecDepth 100000 in
set_option maxHeartbeats 4000000 in
theorem vnew_any (sec : ByteArray) (w : World) (h : sec.size = 16) : Calls Tryz.prog 23 #[.string sec] w fun r w' => ∃ vb mb tb, r = .returned (.tuple #[.pointer (some ⟨vb, 0, none⟩), .nilIface]) ∧ vaultAt w' vb mb tb 0 sec [] [] ∧ (w.heap.size ≤ vb ∧ w.heap.size ≤ mb ∧ w.heap.size ≤ tb) ∧ ∃ x, w' = Go.Proofs.YtnkmckdefiblhaaGreatDoor.ext w x := by
  have hb : ((sec.size : Int) != 16) = false := by rw [h]; rfl
  have hmm := @run_makeMap Tryz.prog
  clear h
  go_enter Tryz.func23, Tryz.ntmps23
  go_wp2_with fail
  go_ret2
  have e1 : (w.alloc (.map #[] 0)).heap.size = w.heap.size + 1 := by simp
  have e2 : ((w.alloc (.map #[] 0)).alloc (.map #[] 0)).heap.size = w.heap.size + 1 + 1 := by simp
  have A := heap_alloc_at ((w.alloc (.map #[] 0)).alloc (.map #[] 0)) (.cells #[.string sec, .map (some w.heap.size), .map (some (w.heap.size + 1))] 87)
  rw [e2] at A
  have B1 : mapI _ w.heap.size 0 [] := ((mapS.made w).kept (World.grownBy_alloc (w.alloc (.map #[] 0)) (.map #[] 0) none) (by simp)).kept (World.grownBy_alloc _ (.cells #[.string sec, .map (some w.heap.size), .map (some (w.heap.size + 1))] 87) none) (by simp)
  have B2 : mapT _ _ 0 [] := (mapS.made (w.alloc (.map #[] 0))).kept (World.grownBy_alloc _ (.cells #[.string sec, .map (some w.heap.size), .map (some (w.heap.size + 1))] 87) none) (by simp)
  rw [e1] at B2
  exact ⟨_, _, _, rfl, ⟨A, B1, B2, by omega, by omega, by omega⟩, by omega, ext_alloc _ (ext_alloc _ (ext_alloc _ (ext_refl w)))⟩
end Go.Proofs.YtnkmckdefiblhaaGreatDoor
namespace Go.Proofs.YtnkmckdefiblhaaGreatDoor
open Go.RowKit

/-- Bytes as cells. -/
def B8 (l : List UInt8) : List Value := l.map fun b => .int .u8 (b.toNat : Int)
theorem B8_append (l m : List UInt8) : B8 (l ++ m) = B8 l ++ B8 m := by simp [B8]
theorem B8_length (l : List UInt8) : (B8 l).length = l.length := by simp [B8]
theorem B8_get {l : List UInt8} {j : Nat} {u : Value} (h : (B8 l)[j]? = some u) : ∃ b, l[j]? = some b ∧ u = .int .u8 (b.toNat : Int) := by
  simp only [B8, List.getElem?_map, Option.map_eq_some_iff] at h
  obtain ⟨b, h1, h2⟩ := h
  exact ⟨b, h1, h2.symm⟩
theorem B8_one (l : List UInt8) : ∀ u ∈ B8 l, u.oneCell' = true := by
  intro u hu
  simp only [B8, List.mem_map] at hu
  obtain ⟨b, _, rfl⟩ := hu
  rfl
theorem info8 : (Tryz.prog.info? 5).map (fun i => (i.zero, i.size, i.bytes)) = some (some (.int .u8 0), 1, 1) := by kernel_rfl
/-- The slice 'v' is the call's own (its blocks lie from 'base' on), and holds the bytes 'l'. -/
def ownsB (w : World) (base : Nat) (v : Value) (l : List UInt8) : Prop := w.ownsRow base 5 1 v l.length (B8 l)
theorem ownsB_nil (w : World) (base : Nat) : ownsB w base (.slice none 0 0) [] := World.ownsRow_nil _ _ _ _
theorem ownsB_ext {w : World} {base : Nat} {v : Value} {l : List UInt8} (h : ownsB w base v l) (x : More) : ownsB (ext w x) base v l :=
  World.ownsRow.kept h (grown_ext w x none) (by cases v.ownBlock <;> simp)
theorem ownsB_base {w : World} {base : Nat} {v : Value} {l : List UInt8} (h : ownsB w base v l) : ∀ g, v.ownBlock = some g → base ≤ g := by
  obtain ⟨_, ⟨rfl, _⟩ | ⟨g, cap, cur, rfl, hb, _⟩⟩ := h
  · intro g hg; simp [Value.ownBlock] at hg
  · intro g' hg; simp only [Value.ownBlock, Option.some.injEq] at hg; omega
/-- What else was there, behind an append. -/
theorem kept_owned {w w' : World} {base : Nat} {v : Value} {l : List UInt8} {k : Nat} {ob : Obj} (h : ownsB w base v l) (hg : w.grownBy w' v.ownBlock) (hk : w.heap[k]? = some ob) (hlt : k < base) : w'.heap[k]? = some ob :=
  (hg.block k (lt_of_heap hk) (fun e => by have := ownsB_base h k e.symm; omega)).trans hk

/-! ### '[]byte(s)': a row of bytes with something behind it -/
def rowB (xs : List UInt8) (sp : Array Value) : Array Value := (B8 xs).toArray ++ sp
theorem rowB_size (xs : List UInt8) (sp : Array Value) : (rowB xs sp).size = xs.length + sp.size := by simp [rowB, B8_length]
theorem rowB_get {xs : List UInt8} {sp : Array Value} {i : Nat} (h : i < xs.length) : (rowB xs sp)[i]? = some (.int .u8 (xs[i].toNat : Int)) := by
  unfold rowB
  rw [Array.getElem?_append_left (by simpa [B8_length] using h), List.getElem?_toArray]
  simp [B8, List.getElem?_eq_getElem h]
theorem rowB_set {xs : List UInt8} {sp : Array Value} {i : Nat} (h : i < xs.length) (b : UInt8) : (rowB xs sp).setIfInBounds i (.int .u8 (b.toNat : Int)) = rowB (xs.set i b) sp := by
  unfold rowB
  rw [Array.setIfInBounds_append_left (by simpa [B8_length] using h)]
  congr 1
  simp [B8, List.map_set]
theorem bytesRow_rowB (s : ByteArray) (cap : Nat) : ∃ sp, bytesRow s cap = rowB s.data.toList sp := by
  refine ⟨Array.replicate (cap - s.size) (.int .u8 0), ?_⟩
  unfold bytesRow rowB
  congr 1
  rw [← Array.toList_inj]; simp [B8]
theorem cell_of_rowB {w : World} {b : Nat} {xs : List UInt8} {sp : Array Value} {t : TypeId} {f : Nat × Nat} (h : w.heap[b]? = some (.cells (rowB xs sp) t f)) (i : Nat) (hi : i < xs.length) :
    w.cell? ⟨b, i, none⟩ = some (.int .u8 (xs[i].toNat : Int)) := by
  rw [cell_in, h]; simp [cellIn, rowB_get hi]
theorem free_of_rowB {w : World} {b : Nat} {xs : List UInt8} {sp : Array Value} {t : TypeId} {m : Nat} (h : w.heap[b]? = some (.cells (rowB xs sp) t (m, m + 1))) (hm : xs.length ≤ m) (i : Nat) (hi : i < xs.length) :
    w.frozen? ⟨b, i, none⟩ = false := by
  rw [frozen_in, h]; simp [frozenIn]; omega
theorem store_rowB {w : World} {x : More} {b i : Nat} {xs : List UInt8} {sp : Array Value} {t : TypeId} {f : Nat × Nat} {v : UInt8} (h : w.heap[b]? = some (.cells (rowB xs sp) t f)) (hi : i < xs.length) :
    ((ext w x).setCell ⟨b, i, none⟩ (.int .u8 (v.toNat : Int))).heap[b]? = some (.cells (rowB (xs.set i v) sp) t f) ∧ w.grownBy ((ext w x).setCell ⟨b, i, none⟩ (.int .u8 (v.toNat : Int))) (some b) := by
  have hb := lt_of_heap h
  constructor
  · rw [← rowB_set hi]; exact heap_setCell ((ext_heap hb).trans h) _
  · exact (grown_ext w x _).trans (grown_setCell _ _ _ _)
theorem string_of_rowB {w : World} {b cap : Nat} {xs : List UInt8} {sp : Array Value} {t : TypeId} {f : Nat × Nat} (h : w.heap[b]? = some (.cells (rowB xs sp) t f)) :
    (convert 35 9 (.slice (some ⟨b, 0, none⟩) xs.length cap)).run Tryz.prog w = .ok (.string ⟨xs.toArray⟩) w := by
  refine run_convert_bytes_back w 35 9 5 ⟨b, 0, none⟩ cap xs Tryz.underlying35 Tryz.underlying5 Tryz.underlying9 ?_
  intro j hj
  have hadd : (⟨b, 0, none⟩ : Addr).add j = ⟨b, j, none⟩ := by unfold Addr.add; split <;> simp_all
  rw [hadd, cell_of_rowB h j hj]
/-- '[]byte(s)' -/
theorem bytes_of_string (w : World) (s : ByteArray) : ∃ sp, (convert 9 35 (.string s)).run Tryz.prog w =
    .ok (.slice (some ⟨w.heap.size, 0, none⟩) s.size (grownCap w s.size 0 5)) (w.drew.alloc (.cells (rowB s.data.toList sp) 5 ((rowB s.data.toList sp).size, (rowB s.data.toList sp).size + 1))) := by
  obtain ⟨sp, h⟩ := bytesRow_rowB s (grownCap w s.size 0 5)
  refine ⟨sp, ?_⟩
  rw [← h]
  exact run_bytes_of_string w 9 35 5 s Tryz.underlying9 Tryz.underlying35 Tryz.underlying5

section
variable {ops : Array Oper} {rest : List Oper} {o : Oper} {a : Act} {w : World} {Q : Exit → Act → World → Prop}
/-- 'append(v, b0, b1, ..)': bytes laid in a block of their own, the newest. -/
theorem append_bytes (news : List UInt8) (base : Nat) (v : Value) (l : List UInt8) (s x : Operand) (cs : Array Value)
    (ho : o.op = .call { callee := .builtin .append, args := #[s, x], argTypes := #[35, 35] }) (hgd : o.guard = none) (hs : a.eval s = v) (c : Nat)
    (hx : a.eval x = .slice (some ⟨w.heap.size, 0, none⟩) news.length c) (hcs : cs = (B8 news).toArray) (hown : ownsB w base v l) (hlen : l.length + news.length ≤ 1099511627776) (hbase : base ≤ w.heap.size)
    (h : ∀ v' w', ownsB w' base v' (l ++ news) → w.grownBy w' v.ownBlock → wpList Tryz.prog ops Q rest (a.put o.dst v') w') : wpList Tryz.prog ops Q (o :: rest) a (w.alloc (.cells cs 5)) := by
  subst hcs
  obtain ⟨i0, hi, hz0, hz1, hz2⟩ := info_parts info8
  refine wpList_append_own _ hgd s x 35 ho base 5 i0 (.int .u8 0) 1 1 Tryz.underlying35 hi hz0 hz1 hz2 rfl (by decide) v l.length (B8 l) hs (World.ownsRow.alloc hown _)
    ⟨w.heap.size, 0, none⟩ news.length c (B8 news) hx (by rw [B8_length]; omega) ?_ (B8_one news) (by unfold maxLen; omega) (by omega) (by simp; omega) ?_
  · intro j u hj
    have hadd : (⟨w.heap.size, 0, none⟩ : Addr).add j = ⟨w.heap.size, j, none⟩ := by unfold Addr.add; split <;> simp_all
    rw [hadd, World.cell?_alloc_new, List.getElem?_toArray]
    exact hj
  · intro v' w' h1 h2 _
    exact h v' w' (by unfold ownsB; rw [B8_append, List.length_append]; exact h1) ((World.grownBy_alloc w _ _).trans h2)

/-- 'string(v)' -/
theorem string_of_owned {base : Nat} {v : Value} {l : List UInt8} (h : ownsB w base v l) : (convert 35 9 v).run Tryz.prog w = .ok (.string ⟨l.toArray⟩) w := by
  obtain ⟨hl, ⟨rfl, h0⟩ | ⟨g, cap, cur, rfl, hb, hh, hn, hc, hsz, hx⟩⟩ := h
  · have : l = [] := List.length_eq_zero_iff.1 h0
    subst this
    exact run_convert_bytes_nil w 35 5 Tryz.underlying35 Tryz.underlying5 0 0 9 Tryz.underlying9
  · refine run_convert_bytes_back w 35 9 5 ⟨g, 0, none⟩ cap l Tryz.underlying35 Tryz.underlying5 Tryz.underlying9 ?_
    intro j hj
    have hadd : (⟨g, 0, none⟩ : Addr).add j = ⟨g, j, none⟩ := by unfold Addr.add; split <;> simp_all
    rw [hadd, cell_in, hh]
    have h1 : (cur.toList.take (l.length * 1))[j]? = (B8 l)[j]? := by rw [hx]
    rw [List.getElem?_take_of_lt (by omega)] at h1
    simp only [B8, List.getElem?_map, List.getElem?_eq_getElem hj, Option.map_some, Array.getElem?_toList] at h1
    simp [cellIn, h1]
end
end Go.Proofs.YtnkmckdefiblhaaGreatDoor
