/- Maps with texts as keys, as lists of pairs. -/
import Derived.Test.YtnmpchojhbmbmaaGreatDoorProg
import Derived.Test.YtnmpchojhbmbmaaGreatDoorG1
import Derived.Maps.StringElems
namespace Go.Proofs.YtnmpchojhbmbmaaGreatDoor
open Go.RowKit Go.WideShapes

theorem lawS : Maps.Keyed Tryz.prog 9 := Maps.string_keyed Tryz.underlying9
theorem keyS_of (k : ByteArray) (hk : k.size ≤ maxLen) : keyOf Tryz.prog 9 (.string k) = some (.string (txt k)) := by
  simp [keyOf, Tryz.underlying9, mapKey, hk, txt]
/-- How a map's elements lie and read. -/
structure ElemOf (e : TypeId) (α : Type) (enc : α → Value) (dat : α → DataW Unit) (R : Value → Option (DataW Unit × List MemPlace)) (z : α) : Prop where
  lay : ∀ x, R (enc x) = some (dat x, [])
  inv : ∀ v y, R v = some y → ∃ x, v = enc x ∧ y = (dat x, [])
  inj : ∀ x y, dat x = dat y → x = y
  zero : ∀ w, (zeroValue e).run Tryz.prog w = .ok (enc z) w
section
variable {t e : TypeId} {α : Type} {enc : α → Value} {dat : α → DataW Unit} {R : Value → Option (DataW Unit × List MemPlace)} {z : α}
def entS (dat : α → DataW Unit) (p : ByteArray × α) : Lit × DataW Unit := (.string (txt p.1), dat p.2)
def findS (k : ByteArray) (M : List (ByteArray × α)) : Option α := (M.find? fun p => decide (txt p.1 = txt k)).map Prod.snd
def delS (k : ByteArray) (M : List (ByteArray × α)) : List (ByteArray × α) := M.filter fun p => !decide (txt p.1 = txt k)
def putS (k : ByteArray) (x : α) (M : List (ByteArray × α)) : List (ByteArray × α) := (k, x) :: delS k M
def OnceS (M : List (ByteArray × α)) : Prop := M.Pairwise fun p q => txt p.1 ≠ txt q.1
/-- A map that holds those pairs. -/
structure mapS (dat : α → DataW Unit) (R : Value → Option (DataW Unit × List MemPlace)) (w : World) (b n : Nat) (M : List (ByteArray × α)) : Prop where
  own : ∃ es, w.ownsMap Tryz.prog 9 R b n (.map es) ∧ es.Perm (M.map (entS dat))
  once : OnceS M
  small : ∀ p ∈ M, p.1.size ≤ maxLen
theorem entS_key (p : ByteArray × α) (k : ByteArray) : (entS dat p).1.sameKey (.string (txt k)) = decide (txt p.1 = txt k) := by
  unfold entS Lit.sameKey
  rw [Bool.eq_iff_iff, decide_eq_true_eq]
  simp
theorem findS_mem {k : ByteArray} {M : List (ByteArray × α)} {x : α} (h : findS k M = some x) : ∃ p ∈ M, txt p.1 = txt k ∧ p.2 = x := by
  unfold findS at h
  obtain ⟨p, hp, rfl⟩ := Option.map_eq_some_iff.1 h
  have h1 := List.find?_some hp
  exact ⟨p, List.mem_of_find?_eq_some hp, by simpa using h1, rfl⟩
theorem findS_none {k : ByteArray} {M : List (ByteArray × α)} (h : findS k M = none) {p : ByteArray × α} (hp : p ∈ M) : txt p.1 ≠ txt k := by
  unfold findS at h
  have h1 := List.find?_eq_none.1 (Option.map_eq_none_iff.1 h) p hp
  simpa using h1
theorem OnceS.eq {M : List (ByteArray × α)} (h : OnceS M) {p q : ByteArray × α} (hp : p ∈ M) (hq : q ∈ M) (he : txt p.1 = txt q.1) : p = q := by
  induction M with
  | nil => cases hp
  | cons a M ih =>
    obtain ⟨h1, h2⟩ := List.pairwise_cons.1 h
    rcases List.mem_cons.1 hp with e1 | hp' <;> rcases List.mem_cons.1 hq with e2 | hq'
    · rw [e1, e2]
    · rw [e1] at he; exact absurd he (h1 q hq')
    · rw [e2] at he; exact absurd he.symm (h1 p hp')
    · exact ih h2 hp' hq'
theorem findS_some {M : List (ByteArray × α)} (h : OnceS M) {p : ByteArray × α} (hp : p ∈ M) : findS p.1 M = some p.2 := by
  cases hf : findS p.1 M with
  | none => exact absurd rfl (findS_none hf hp)
  | some x =>
    obtain ⟨q, hq, hk, rfl⟩ := findS_mem hf
    rw [h.eq hq hp hk]
theorem OnceS.del {M : List (ByteArray × α)} (h : OnceS M) (k : ByteArray) : OnceS (delS k M) := h.sublist List.filter_sublist
theorem OnceS.put {M : List (ByteArray × α)} (h : OnceS M) (k : ByteArray) (x : α) : OnceS (putS k x M) := by
  refine List.Pairwise.cons (fun q hq => ?_) (h.del k)
  have := (List.mem_filter.1 hq).2
  simp only [Bool.not_eq_true', decide_eq_false_iff_not] at this
  exact fun e => this e.symm
theorem atS {es : List (Lit × DataW Unit)} {M : List (ByteArray × α)} (hp : es.Perm (M.map (entS dat))) (ho : OnceS M) (k : ByteArray) (z : α) :
    (DataW.map es).atKey (.string (txt k)) (dat z) = dat ((findS k M).getD z) := by
  unfold DataW.atKey
  dsimp only
  cases hf : es.find? fun p => p.1.sameKey (.string (txt k)) with
  | none =>
    cases hg : findS k M with
    | none => rfl
    | some c =>
      obtain ⟨p, hm, hk, _⟩ := findS_mem hg
      have h1 := List.find?_eq_none.1 hf (entS dat p) (hp.mem_iff.2 (List.mem_map_of_mem hm))
      rw [entS_key, hk] at h1
      simp at h1
  | some q =>
    have h1 := List.find?_some hf
    obtain ⟨p, hm, rfl⟩ := List.mem_map.1 (hp.mem_iff.1 (List.mem_of_find?_eq_some hf))
    rw [entS_key, decide_eq_true_eq] at h1
    have h2 := findS_some ho hm
    have h3 : findS k M = findS p.1 M := by unfold findS; rw [h1]
    rw [h3, h2]
    rfl
theorem hasS {es : List (Lit × DataW Unit)} {M : List (ByteArray × α)} (hp : es.Perm (M.map (entS dat))) (k : ByteArray) : Maps.has (.map es) (.string (txt k)) = (findS k M).isSome := by
  rw [Maps.has_eq]
  cases hg : findS k M with
  | none =>
    rw [Option.isSome_none, Bool.eq_false_iff]
    intro h
    obtain ⟨q, hq1, hq2⟩ := List.any_eq_true.1 h
    obtain ⟨p, hm, rfl⟩ := List.mem_map.1 (hp.mem_iff.1 hq1)
    rw [entS_key, decide_eq_true_eq] at hq2
    exact findS_none hg hm hq2
  | some c =>
    obtain ⟨p, hm, hk, _⟩ := findS_mem hg
    rw [Option.isSome_some]
    exact List.any_eq_true.2 ⟨entS dat p, hp.mem_iff.2 (List.mem_map_of_mem hm), by rw [entS_key, hk]; simp⟩
theorem mapS.look (E : ElemOf e α enc dat R z) (ht : Tryz.prog.underlying t = some (.map 9 e)) {w : World} {b n : Nat} {M : List (ByteArray × α)} (h : mapS dat R w b n M) {k : ByteArray} (hk : k.size ≤ maxLen) :
    (Instr.lookup t (.map (some b)) (.string k) false).run Tryz.prog w = .ok (enc ((findS k M).getD z)) w := by
  obtain ⟨es, hown, hp⟩ := h.own
  obtain ⟨v, ps, hrun, hv⟩ := hown.lookup (t := t) (e := e) lawS ht (E.zero w) (E.lay z) (keyS_of k hk)
  rw [atS hp h.once] at hv
  obtain ⟨x, rfl, hy⟩ := E.inv _ _ hv
  rw [hrun, E.inj _ _ (congrArg Prod.fst hy).symm]
theorem mapS.look_ok (E : ElemOf e α enc dat R z) (ht : Tryz.prog.underlying t = some (.map 9 e)) {w : World} {b n : Nat} {M : List (ByteArray × α)} (h : mapS dat R w b n M) {k : ByteArray} (hk : k.size ≤ maxLen) :
    (Instr.lookup t (.map (some b)) (.string k) true).run Tryz.prog w = .ok (.tuple #[enc ((findS k M).getD z), .bool (findS k M).isSome]) w := by
  obtain ⟨es, hown, hp⟩ := h.own
  obtain ⟨v, ps, hrun, hv⟩ := hown.look_ok (t := t) (e := e) lawS ht (E.zero w) (E.lay z) (keyS_of k hk)
  rw [atS hp h.once] at hv
  obtain ⟨x, rfl, hy⟩ := E.inv _ _ hv
  rw [hrun, hasS hp, E.inj _ _ (congrArg Prod.fst hy).symm]
theorem filterS (M : List (ByteArray × α)) (k : ByteArray) : (M.map (entS dat)).filter (fun p => !p.1.sameKey (.string (txt k))) = (delS k M).map (entS dat) := by
  unfold delS
  rw [List.filter_map]
  congr 1
  apply List.filter_congr
  intro p _
  simp only [Function.comp]
  rw [entS_key]
theorem mapS.put (E : ElemOf e α enc dat R z) (ht : Tryz.prog.underlying t = some (.map 9 e)) {w : World} {b n : Nat} {M : List (ByteArray × α)} (h : mapS dat R w b n M) {k : ByteArray} (x : α) (hk : k.size ≤ maxLen) (hn : n < maxLen) :
    ∃ w', (Instr.mapUpdate t (.map (some b)) (.string k) (enc x)).run Tryz.prog w = .ok () w' ∧ mapS dat R w' b (n + 1) (putS k x M) ∧ w.grownBy w' (some b) := by
  obtain ⟨es, hown, hp⟩ := h.own
  obtain ⟨w', hrun, hown', hg⟩ := hown.update (t := t) (e := e) lawS ht hn (keyS_of k hk) (E.lay x)
  refine ⟨w', hrun, ⟨⟨_, hown', ?_⟩, h.once.put k x, ?_⟩, hg⟩
  · refine (insert_perm _ _).trans ?_
    unfold putS
    rw [List.map_cons]
    refine List.Perm.cons _ ?_
    refine (hp.filter _).trans ?_
    rw [filterS]
  · intro p hp
    rcases List.mem_cons.1 hp with rfl | hp
    · exact hk
    · exact h.small p (List.mem_filter.1 hp).1
theorem mapS.del (ht : Tryz.prog.underlying t = some (.map 9 e)) {w : World} {b n : Nat} {M : List (ByteArray × α)} (h : mapS dat R w b n M) {k : ByteArray} (hk : k.size ≤ maxLen) (ty : TypeId) :
    ∃ w', (Builtin.delete_ #[t, 9] ty #[.map (some b), .string k]).run Tryz.prog w = .ok (.tuple #[]) w' ∧ mapS dat R w' b n (delS k M) ∧ w.grownBy w' (some b) := by
  obtain ⟨es, hown, hp⟩ := h.own
  obtain ⟨w', hrun, hown', hg⟩ := hown.drop (t := t) (e := e) lawS ht (keyS_of k hk) ty
  refine ⟨w', hrun, ⟨⟨_, hown', ?_⟩, h.once.del k, fun p hp => h.small p (List.mem_filter.1 hp).1⟩, hg.grown⟩
  refine (hp.filter _).trans ?_
  rw [filterS]
theorem mapS.made (w : World) : mapS (α := α) dat R (w.alloc (.map #[] 0)) w.heap.size 0 [] :=
  ⟨⟨[], World.ownsMap_made w _ _ _, .refl _⟩, List.Pairwise.nil, fun _ h => by cases h⟩
theorem mapS.kept {w w' : World} {b n : Nat} {M : List (ByteArray × α)} {row : Option Nat} (h : mapS dat R w b n M) (hg : w.grownBy w' row) (hne : some b ≠ row) : mapS dat R w' b n M := by
  obtain ⟨es, hown, hp⟩ := h.own
  exact ⟨⟨es, hown.kept hg hne, hp⟩, h.once, h.small⟩
theorem mapS.lt {w : World} {b n : Nat} {M : List (ByteArray × α)} (h : mapS dat R w b n M) : b < w.heap.size := by
  obtain ⟨es, hown, hp⟩ := h.own
  exact hown.lt
theorem mapS.mono {w : World} {b n n' : Nat} {M : List (ByteArray × α)} (h : mapS dat R w b n M) (hn : n ≤ n') : mapS dat R w b n' M := by
  obtain ⟨es, hown, hp⟩ := h.own
  exact ⟨⟨es, hown.mono hn, hp⟩, h.once, h.small⟩
theorem mapS.len_le {w : World} {b n : Nat} {M : List (ByteArray × α)} (h : mapS dat R w b n M) : M.length ≤ n := by
  obtain ⟨es, hown, hp⟩ := h.own
  have := hown.size_le
  rw [Maps.size_eq, hp.length_eq, List.length_map] at this
  exact this
end
/-- Elements that are truths, texts, numbers. -/
theorem boolElem_inv {P : Program} {e : TypeId} (he : P.underlying e = some .bool) {v : Value} {y : DataW Unit × List MemPlace} (h : plainElem P e v = some y) : ∃ x, v = .bool x ∧ y = (.lit (.bool x), []) := by
  unfold plainElem at h
  rw [he] at h
  cases v <;> simp at h
  exact ⟨_, rfl, h.symm⟩
theorem elemB : ElemOf 4 Bool .bool (fun x => .lit (.bool x)) (plainElem Tryz.prog 4) false where
  lay x := plainElem_bool Tryz.underlying4 x
  inv _ _ h := boolElem_inv Tryz.underlying4 h
  inj x y h := by injection h with h; injection h
  zero w := by kernel_rfl
abbrev I64 := { x : Int // (Lit.int .i64 x).wf = true }
theorem elemI : ElemOf 3 I64 (fun x => .int .i64 x.1) (fun x => .lit (.int .i64 x.1)) (plainElem Tryz.prog 3) ⟨0, by decide⟩ where
  lay x := plainElem_int Tryz.underlying3 x.2
  inv _ _ h := by
    obtain ⟨a, h1, h2, h3⟩ := plainElem_int_inv Tryz.underlying3 h
    exact ⟨⟨a, h3⟩, h1, h2⟩
  inj x y h := by injection h with h; injection h with _ h; exact Subtype.ext h
  zero w := by kernel_rfl
abbrev Txt := { s : ByteArray // s.size ≤ maxLen }
theorem elemT : ElemOf 9 Txt (fun x => .string x.1) (fun x => .lit (.string x.1.data.toList)) (plainElem Tryz.prog 9) ⟨⟨#[]⟩, by decide⟩ where
  lay x := plainElem_string Tryz.underlying9 x.2
  inv _ _ h := by
    obtain ⟨a, h1, h2, h3⟩ := plainElem_string_inv Tryz.underlying9 h
    exact ⟨⟨a, h3⟩, h1, h2⟩
  inj x y h := by injection h with h; injection h with h; exact Subtype.ext (txt_inj h)
  zero w := by kernel_rfl
end Go.Proofs.YtnmpchojhbmbmaaGreatDoor
