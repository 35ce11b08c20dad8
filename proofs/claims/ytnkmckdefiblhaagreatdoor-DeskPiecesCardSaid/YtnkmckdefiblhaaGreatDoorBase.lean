/- Base lemmas: worlds after pure calls ('ext'), and regions that draw their order, walked once. No program. -/
import Derived.WalkKit
import Derived.WalkSpells
import Derived.WalkLawsBesides
import Derived.StillTail
import Derived.Deep.QuietTactic
import Derived.BigQuiet
import Derived.Lib.Hide
import Derived.Lib.Strings
namespace Go.Proofs.YtnkmckdefiblhaaGreatDoor
open Go.RowKit

/-! ### A world with new blocks behind it -/
/-- New blocks, and a count of draws. -/
structure More where
  blocks : Array Obj
  drawn : Nat
instance : Inhabited More := ⟨⟨#[], 0⟩⟩
/-- 'w' with more blocks, and another count of draws. -/
def ext (w : World) (x : More) : World := { w with heap := w.heap ++ x.blocks, drawn := x.drawn }

@[simp, go_sem] theorem ext_size (w : World) (x : More) : (ext w x).heap.size = w.heap.size + x.blocks.size := by simp [ext]
theorem ext_heap {w : World} {x : More} {k : Nat} (h : k < w.heap.size) : (ext w x).heap[k]? = w.heap[k]? := by
  simp [ext, Array.getElem?_append_left h]
theorem ext_below (w : World) (x : More) : Below w.heap.size w (ext w x) :=
  ⟨rfl, rfl, rfl, by simp, fun _ h => ext_heap h⟩
theorem ext_of {w w' : World} (h : Below w.heap.size w w') : ∃ x, w' = ext w x := by
  refine ⟨⟨w'.heap.extract w.heap.size w'.heap.size, w'.drawn⟩, ?_⟩
  cases w with
  | mk heap tape drawn os output =>
    cases w' with
    | mk heap' tape' drawn' os' output' =>
      have h1 := h.os; have h2 := h.tape; have h3 := h.output; have h4 := h.size; have h5 := h.block
      simp only at h1 h2 h3 h4 h5
      subst h1 h2 h3
      simp only [ext, World.mk.injEq, and_true]
      apply Array.ext
      · simp; omega
      · intro i hi hi'
        rcases Nat.lt_or_ge i heap.size with hl | hl
        · rw [Array.getElem_append_left hl]
          have := h5 i hl
          rw [Array.getElem?_eq_getElem hi, Array.getElem?_eq_getElem hl] at this
          exact Option.some.inj this
        · rw [Array.getElem_append_right hl, Array.getElem_extract]
          congr 1; omega
theorem ext_iff {w w' : World} : (∃ x, w' = ext w x) ↔ Below w.heap.size w w' :=
  ⟨fun ⟨x, h⟩ => h ▸ ext_below w x, ext_of⟩
theorem ext_refl (w : World) : ∃ x, w = ext w x := ext_of (Below.refl _ _)
theorem ext_trans {a b c : World} (h : ∃ x, b = ext a x) (k : ∃ x, c = ext b x) : ∃ x, c = ext a x :=
  ext_iff.2 ((ext_iff.1 h).trans ((ext_iff.1 k).mono (ext_iff.1 h).size))
theorem ext_drew {a b : World} (h : ∃ x, b = ext a x) : ∃ x, b.drew = ext a x := ext_of (ext_iff.1 h).drew
theorem ext_alloc {a b : World} (o : Obj) (h : ∃ x, b = ext a x) : ∃ x, b.alloc o = ext a x := ext_of ((ext_iff.1 h).alloc (ext_iff.1 h).size o)
/-- A cell as it stands in a block. -/
def cellIn : Option Obj → Nat → Option Nat → Option Value
  | some (.cells c _ _), o, s => if s.isSome then none else c[o]?
  | _, _, _ => none
def frozenIn : Option Obj → Nat → Bool
  | some (.cells _ _ (lo, hi)), o => lo ≤ o && o < hi
  | _, _ => false
theorem cell_in (w : World) (b o : Nat) (s : Option Nat) : w.cell? ⟨b, o, s⟩ = cellIn w.heap[b]? o s := by
  unfold World.cell? cellIn; cases w.heap[b]? with
  | none => rfl
  | some v => cases v <;> rfl
theorem frozen_in (w : World) (b o : Nat) (s : Option Nat) : w.frozen? ⟨b, o, s⟩ = frozenIn w.heap[b]? o := by
  unfold World.frozen? frozenIn; cases w.heap[b]? with
  | none => rfl
  | some v => cases v <;> rfl
@[go_sem] theorem ext_cell (w : World) (x : More) (b o : Nat) (s : Option Nat) :
    (ext w x).cell? ⟨b, o, s⟩ = if b < w.heap.size then w.cell? ⟨b, o, s⟩ else cellIn x.blocks[b - w.heap.size]? o s := by
  rw [cell_in, cell_in]
  split
  · rename_i h; rw [ext_heap h]
  · rename_i h; simp [ext, Array.getElem?_append_right (Nat.le_of_not_lt h)]
@[go_sem] theorem ext_frozen (w : World) (x : More) (b o : Nat) (s : Option Nat) :
    (ext w x).frozen? ⟨b, o, s⟩ = if b < w.heap.size then w.frozen? ⟨b, o, s⟩ else frozenIn x.blocks[b - w.heap.size]? o := by
  rw [frozen_in, frozen_in]
  split
  · rename_i h; rw [ext_heap h]
  · rename_i h; simp [ext, Array.getElem?_append_right (Nat.le_of_not_lt h)]

theorem heap_alloc_at (w : World) (o : Obj) : (w.alloc o).heap[w.heap.size]? = some o := by
  show (w.heap.push o)[w.heap.size]? = _; simp

/-! ### Regions that draw their order -/
section
variable {P : Program} {ops : Array Oper} {md : Region.Mode} {C : World → Prop}

/-- All quiet, in the class of a world's extensions. -/
theorem wp_region_ext {id : Nat} {Q : Exit → Act → World → Prop} {a : Act} {w : World} {l : List Oper} (hm : P.follows .mixedOrders = true) (hB : Region.lexB .any l.toArray = true)
    (h : wpQuiet P l.toArray (fun w' => ∃ x, w' = ext w x) (fun a' => ∀ w', (∃ x, w' = ext w x) → Q .normal a' w') l a) : (Code.region id l.toArray true).wp P Q a w :=
  wp_region_quiet (C := fun w' => ∃ x, w' = ext w x) hm hB (ext_drew (ext_refl w)) (by simpa using h)

/-- An operation of the tail, while the head is looked at. -/
def idle (o : Oper) : Oper := { o with dst := none, op := .assign (.const undef), guard := none }
/-- Each operation waits for earlier ones alone. -/
def backB (md : Region.Mode) (ops : Array Oper) : Bool :=
  (List.range ops.size).all fun j => match ops[j]? with
    | some o => o.after.all fun e => !Region.binds md e || decide (e.on < j)
    | none => true
theorem backB_spec (h : backB md ops = true) {j : Nat} {o : Oper} (hj : ops[j]? = some o) {e : Edge} (he : e ∈ o.after) (hb : Region.binds md e = true) : e.on < j := by
  have hlt : j < ops.size := by
    rcases Nat.lt_or_ge j ops.size with h' | h'
    · exact h'
    · rw [Array.getElem?_eq_none h'] at hj; cases hj
  have h1 := List.all_eq_true.1 h j (List.mem_range.2 hlt)
  simp only [hj] at h1
  have h2 := Array.all_eq_true'.1 h1 e he
  simpa [hb] using h2
theorem ready_same {ops' : Array Oper} (hs : ∀ j : Nat, (ops'[j]?).map (fun o : Oper => o.after) = (ops[j]?).map (fun o : Oper => o.after)) {listed : Array Bool} {i : Nat} :
    i ∈ Region.ready md ops' listed ↔ i ∈ Region.ready md ops listed := by
  rw [mem_ready, mem_ready]
  have := hs i
  constructor
  · rintro ⟨h1, oi, h2, h3⟩
    rw [h2] at this
    cases h4 : ops[i]? with
    | none => rw [h4] at this; cases this
    | some o => rw [h4] at this; simp only [Option.map_some, Option.some.injEq] at this; exact ⟨h1, o, rfl, fun e he => h3 e (this ▸ he)⟩
  · rintro ⟨h1, oi, h2, h3⟩
    rw [h2] at this
    cases h4 : ops'[i]? with
    | none => rw [h4] at this; cases this
    | some o => rw [h4] at this; simp only [Option.map_some, Option.some.injEq] at this; exact ⟨h1, o, rfl, fun e he => h3 e (this ▸ he)⟩
theorem ready_some {n : Nat} {listed : Array Bool} (hb : backB md ops = true) (hn : n ≤ ops.size) (hsz : listed.size = ops.size) :
    ∀ i, i < n → listed.getD i true = false → Region.ready md ops listed ≠ [] := by
  intro i
  induction i using Nat.strongRecOn with
  | _ i ih =>
    intro hi hun h0
    have hlt : i < ops.size := by omega
    by_cases hr : i ∈ Region.ready md ops listed
    · rw [h0] at hr; cases hr
    · rw [mem_ready] at hr
      apply hr
      refine ⟨hun, ops[i], Array.getElem?_eq_getElem hlt, fun e he hbi => ?_⟩
      have hlt' := backB_spec hb (Array.getElem?_eq_getElem hlt) he hbi
      cases hl : listed.getD e.on true with
      | false => exact absurd h0 (ih e.on hlt' (by omega) hl)
      | true =>
        have : e.on < listed.size := by omega
        simp [this] at hl ⊢; exact hl
end

section
variable {P : Program} {md : Region.Mode} {C : World → Prop} {Q' : Exit → Act → World → Prop}
/-- The whole region as the head sees it. -/
def idled (n : Nat) (l : List Oper) : List Oper := l.take n ++ (l.drop n).map idle
theorem idled_get_lt {n j : Nat} {l : List Oper} (h : j < n) : (idled n l)[j]? = l[j]? := by
  unfold idled
  rcases Nat.lt_or_ge j l.length with hl | hl
  · rw [List.getElem?_append_left (by simp; omega), List.getElem?_take_of_lt h]
  · rw [List.getElem?_eq_none (by simp; omega), List.getElem?_eq_none hl]
theorem idled_get_ge {n j : Nat} {l : List Oper} (h : n ≤ j) : (idled n l)[j]? = (l[j]?).map idle := by
  unfold idled
  rcases Nat.lt_or_ge j l.length with hl | hl
  · rw [List.getElem?_append_right (by simp; omega), List.getElem?_map, List.getElem?_drop]
    congr 2; simp; omega
  · rw [List.getElem?_eq_none (by simp; omega), List.getElem?_eq_none hl]; rfl
theorem idled_after (n : Nat) (l : List Oper) (j : Nat) : ((idled n l).toArray[j]?).map (fun o : Oper => o.after) = (l.toArray[j]?).map (fun o : Oper => o.after) := by
  simp only [List.getElem?_toArray]
  rcases Nat.lt_or_ge j n with h | h
  · rw [idled_get_lt h]
  · rw [idled_get_ge h, Option.map_map]; rfl
theorem idled_length (n : Nat) (l : List Oper) : (idled n l).length = l.length := by unfold idled; simp; omega

/-- No head operation is guarded by one of the tail. -/
def guardsB (n : Nat) (l : List Oper) : Bool := (l.take n).all fun o => match o.guard with | some (j, _) => decide (j < n) | none => true
theorem wanted_idled {n : Nat} {l : List Oper} (hg : guardsB n l = true) {o : Oper} (ho : o ∈ l.take n) (tmps : Array Value) :
    Region.wanted o (yielded (idled n l).toArray tmps) = Region.wanted o (yielded l.toArray tmps) := by
  have h := List.all_eq_true.1 hg o ho
  unfold Region.wanted
  cases hgd : o.guard with
  | none => rfl
  | some p =>
    obtain ⟨j, b⟩ := p
    simp only [hgd, decide_eq_true_eq] at h
    simp only [yielded, List.getElem?_toArray, idled_get_lt h]

theorem wpQuiet_idles {ops : Array Oper} {Q : Act → Prop} : ∀ (t : List Oper) (a : Act), Q a → wpQuiet P ops C Q (t.map idle) a
  | [], _, h => h
  | o :: t, a, h => by
    have ih := wpQuiet_idles (ops := ops) t a h
    show wpQuiet P ops C Q (idle o :: t.map idle) a
    unfold wpQuiet
    rw [if_pos (by simp [Region.wanted, idle])]
    exact BigFrame.quiet_assign (.const undef) rfl ih
theorem wpQuiet_append {ops : Array Oper} {Q : Act → Prop} : ∀ (h t : List Oper) (a : Act), wpQuiet P ops C (fun a => wpQuiet P ops C Q t a) h a → wpQuiet P ops C Q (h ++ t) a
  | [], _, _, h => h
  | o :: hd, t, a, h => by
    show wpQuiet P ops C Q (o :: (hd ++ t)) a
    unfold wpQuiet at h ⊢
    split
    · rename_i hw; rw [if_pos hw] at h
      exact Oper.quiet_mono (fun a' h' => wpQuiet_append hd t a' h') h
    · rename_i hw; rw [if_neg hw] at h
      exact wpQuiet_append hd t _ h
theorem wpQuiet_idled {n : Nat} {l : List Oper} (hg : guardsB n l = true) {Q : Act → Prop} : ∀ (h : List Oper), (∀ o ∈ h, o ∈ l.take n) → ∀ (a : Act),
    wpQuiet P l.toArray C Q h a → wpQuiet P (idled n l).toArray C Q h a
  | [], _, _, h => h
  | o :: hd, hm, a, h => by
    unfold wpQuiet at h ⊢
    rw [wanted_idled hg (hm o (List.mem_cons_self ..))]
    split
    · rename_i hw; rw [if_pos hw] at h
      exact Oper.quiet_mono (fun a' h' => wpQuiet_idled hg hd (fun o ho => hm o (List.mem_cons_of_mem _ ho)) a' h') h
    · rename_i hw; rw [if_neg hw] at h
      exact wpQuiet_idled hg hd (fun o ho => hm o (List.mem_cons_of_mem _ ho)) _ h

theorem idle_run {o : Oper} {a : Act} {K : Act → Prop} (h : (idle o).quiet P a C K) : K a := by
  obtain ⟨v, h1, h2⟩ := h
  have : a.put (idle o).dst v = a := rfl
  rwa [this] at h2

/-- At the end of the head, whatever is said of it there. -/
theorem wpAnyQ_tail {n : Nat} {l : List Oper} {Qh : Act → Prop} : ∀ (f k : Nat) (listed : Array Bool) (a : Act), n ≤ k → k + f = l.length →
    Region.seqB md l.toArray f k listed = true → wpAnyQ P md (idled n l).toArray C Qh f listed a → Qh a
  | 0, _, _, _, _, _, _, h => h.2
  | f + 1, k, listed, a, hk, hf, hB, h => by
    simp only [Region.seqB, Bool.and_eq_true, decide_eq_true_eq] at hB
    have hr : k ∈ Region.ready md (idled n l).toArray listed := by rw [ready_same (idled_after n l), hB.1]; exact List.mem_singleton.2 rfl
    have h1 := h.2 k hr
    unfold qOp at h1
    have hlt : k < l.length := by omega
    have hget : (idled n l).toArray[k]? = some (idle l[k]) := by
      rw [List.getElem?_toArray, idled_get_ge hk, List.getElem?_eq_getElem hlt]; rfl
    simp only [hget] at h1
    rw [if_pos (by simp [Region.wanted, idle])] at h1
    exact wpAnyQ_tail f (k + 1) _ a (by omega) (by omega) hB.2 (idle_run h1)

theorem count_set_true {xs : Array Bool} {i : Nat} (h : xs.getD i true = false) : (xs.setIfInBounds i true).count false + 1 = xs.count false := by
  have hi : i < xs.size := by
    rcases Nat.lt_or_ge i xs.size with h' | h'
    · exact h'
    · simp [Array.getElem?_eq_none h'] at h
  have hx : xs[i] = false := by simpa [hi] using h
  rw [Array.setIfInBounds_def, dif_pos hi, Array.count_set hi]
  have hpos : 0 < xs.count false := Array.count_pos_iff.2 (hx ▸ Array.getElem_mem hi)
  simp [hx]; omega

/-- Each operation of the head, from the m-th on, is waited for by one up to the n-th. -/
def sinkFrom (md : Region.Mode) (ops : Array Oper) (m n : Nat) : Bool :=
  (List.range n).all fun i => decide (i < m) || (List.range (n + 1)).any fun j => decide (i < j) && Region.waitsFor md ops j i
theorem sink_waits {ops : Array Oper} {m n : Nat} {listed : Array Bool} (hs : sinkFrom md ops m n = true) (hc : Region.chainB md ops n = true) (hn : n < ops.size) (inv : HeadInv md ops n listed) :
    ∀ (d i : Nat), n - i = d → m ≤ i → i < n → listed.getD i true = false → ∀ t, n ≤ t → t ∉ Region.ready md ops listed := by
  intro d
  induction d using Nat.strongRecOn with
  | _ d ih =>
    intro i hd hm hi hun t ht hr
    obtain ⟨_, ot, hot, hall⟩ := mem_ready.1 hr
    have htlt : t < ops.size := by
      rcases Nat.lt_or_ge t ops.size with h' | h'
      · exact h'
      · rw [Array.getElem?_eq_none h'] at hot; cases hot
    have unl : ∀ k, listed.getD k true = false → listed.getD k false = false := fun k h => getD_both h
    rcases Nat.lt_or_ge n t with hlt | hge
    · have h1 := List.all_eq_true.1 hc t (List.mem_range.2 htlt)
      simp only [Bool.or_eq_true, decide_eq_true_eq] at h1
      rcases h1 with h1 | h1
      · omega
      · obtain ⟨o', ho', e, he, hb, heq⟩ := Region.waitsFor_spec h1
        have : o' = ot := Option.some.inj (ho'.symm.trans hot)
        subst this
        have h2 := hall e he hb
        rw [heq, unl (t - 1) (inv.tail (t - 1) (by omega) (by omega))] at h2
        cases h2
    · have htn : t = n := by omega
      subst htn
      have h1 := List.all_eq_true.1 hs i (List.mem_range.2 hi)
      simp only [Bool.or_eq_true, decide_eq_true_eq] at h1
      rcases h1 with h1 | h1
      · omega
      · obtain ⟨j, hj, hw⟩ := List.any_eq_true.1 h1
        simp only [Bool.and_eq_true, decide_eq_true_eq] at hw
        obtain ⟨hij, hw⟩ := hw
        obtain ⟨oj, hoj, e, he, hb, heq⟩ := Region.waitsFor_spec hw
        have hjn : j ≤ t := by have := List.mem_range.1 hj; omega
        rcases Nat.lt_or_ge j t with hlt | hge'
        · have hju : listed.getD j true = false := by
            cases hl : listed.getD j true with
            | false => rfl
            | true =>
              have hjs : j < listed.size := by rw [inv.size]; omega
              have hl' : listed.getD j false = true := by simp [hjs] at hl ⊢; exact hl
              have := inv.closed j oj hoj hl' e he hb
              rw [heq, unl i hun] at this
              cases this
          exact ih (t - j) (by omega) j rfl (by omega) hlt hju t (Nat.le_refl _) hr
        · have hjt : j = t := by omega
          subst hjt
          have : oj = ot := Option.some.inj (hoj.symm.trans hot)
          subst this
          have h2 := hall e he hb
          rw [heq, unl i hun] at h2
          cases h2

/-- THE SIMULATION: the head in whatever order, then the tail in its own. -/
theorem wpAny_of_headtail {m n : Nat} {l : List Oper} (hb : backB md l.toArray = true) (hs : sinkFrom md l.toArray m n = true) (hc : Region.chainB md l.toArray n = true) (hn : n < l.length)
    (hq : Region.seqB md l.toArray (l.length - n) n (Array.replicate n true ++ Array.replicate (l.length - n) false) = true) (hg : guardsB n l = true) :
    ∀ (f : Nat) (listed : Array Bool) (a : Act) (w : World), HeadInv md l.toArray n listed → (∀ i, i < m → listed.getD i true = true) → listed.count false = f → C w →
      wpAnyQ P md (idled n l).toArray C (fun a' => ∀ w', C w' → wpList P l.toArray Q' (l.drop n) a' w') f listed a → wpAny P md l.toArray Q' f listed a w := by
  intro f
  induction f with
  | zero =>
    intro listed a w hi _ hcnt _ h
    exfalso
    have h1 := hi.tail n (Nat.le_refl _) (by simpa using hn)
    have hlt : n < listed.size := by rw [hi.size]; simpa using hn
    have : false ∈ listed := by
      have hx : listed[n] = false := by simpa [hlt] using h1
      exact hx ▸ Array.getElem_mem hlt
    have := Array.count_pos_iff.2 this
    omega
  | succ f ih =>
    intro listed a w hi hpre hcnt hC h
    by_cases hall : ∃ i, i < n ∧ listed.getD i true = false
    · obtain ⟨i0, hi0, hun0⟩ := hall
      have hm0 : m ≤ i0 := by
        rcases Nat.lt_or_ge i0 m with h' | h'
        · rw [hpre i0 h'] at hun0; cases hun0
        · exact h'
      refine ⟨fun h0 => absurd h0 (ready_some hb (by simp; omega) hi.size i0 hi0 hun0), fun i hri => ?_⟩
      have hin : i < n := by
        rcases Nat.lt_or_ge i n with h' | h'
        · exact h'
        · exact absurd hri (sink_waits hs hc (by simpa using hn) hi (n - i0) i0 rfl hm0 hi0 hun0 i h')
      have h1 := h.2 i ((ready_same (idled_after n l)).2 hri)
      have hun : listed.getD i true = false := (mem_ready.1 hri).1
      have hpre' : ∀ k, k < m → (listed.setIfInBounds i true).getD k true = true := fun k hk => by
        by_cases hik : i = k
        · subst hik; rw [hpre i hk] at hun; cases hun
        · rw [getD_set_ne true hik]; exact hpre k hk
      have hlt : i < l.length := by omega
      unfold qOp at h1
      unfold wpOp
      have hgt : (idled n l).toArray[i]? = some l[i] := by rw [List.getElem?_toArray, idled_get_lt hin, List.getElem?_eq_getElem hlt]
      have hgt' : l.toArray[i]? = some l[i] := by rw [List.getElem?_toArray, List.getElem?_eq_getElem hlt]
      have hcnt' := count_set_true hun
      simp only [hgt] at h1
      simp only [hgt']
      rw [wanted_idled hg (List.mem_take_iff_getElem.2 ⟨i, by omega, rfl⟩) a.tmps] at h1
      split
      · rename_i hw; rw [if_pos hw] at h1
        exact .inl (Oper.wp_of_quiet hC (fun a' w' hC' hK => ih _ a' w' (hi.set hri hin) hpre' (by omega) hC' hK) h1)
      · rename_i hw; rw [if_neg hw] at h1
        exact ih _ _ w (hi.set hri hin) hpre' (by omega) hC h1
    · have heq : listed = Array.replicate n true ++ Array.replicate (l.length - n) false := by
        have hsz := hi.size
        simp only [List.size_toArray] at hsz
        apply Array.ext
        · simp; omega
        · intro i h1 h2
          rcases Nat.lt_or_ge i n with hin | hin
          · rw [Array.getElem_append_left (by simpa using hin), Array.getElem_replicate]
            cases hx : listed[i] with
            | true => rfl
            | false => exact absurd ⟨i, hin, by simpa [h1] using hx⟩ hall
          · rw [Array.getElem_append_right (by simpa using hin), Array.getElem_replicate]
            have := hi.tail i hin (by simp; omega)
            simpa [h1] using this
      have hlen : (l.drop n).length = f + 1 := by
        rw [heq] at hcnt
        simp [Array.count_append, Array.count_replicate] at hcnt
        simp; omega
      have hlen' : l.length - n = f + 1 := by simpa using hlen
      rw [← heq, hlen'] at hq
      have hQ := wpAnyQ_tail (f + 1) n listed a (Nat.le_refl _) (by omega) hq h w hC
      have := wpAny_of_seq (P := P) (md := md) (ops := l.toArray) (Q' := Q') (l.drop n) n listed a w (fun j => by simp [List.getElem?_drop]) (by rw [hlen]; exact hq) hQ
      rwa [hlen] at this

/-- The first k are done. -/
def firstOf (k N : Nat) : Array Bool := Array.replicate k true ++ Array.replicate (N - k) false
theorem firstOf_zero (N : Nat) : firstOf 0 N = Array.replicate N false := by simp [firstOf]
theorem firstOf_succ {k N : Nat} (h : k < N) : (firstOf k N).setIfInBounds k true = firstOf (k + 1) N := by
  apply Array.ext_getElem?
  intro i
  unfold firstOf
  rw [Array.getElem?_setIfInBounds]
  simp only [Array.size_append, Array.size_replicate, Array.getElem?_append, Array.getElem?_replicate]
  by_cases h1 : k = i
  · subst h1; rw [if_pos rfl, if_pos (by omega), if_pos (by omega), if_pos (by omega)]
  · rw [if_neg h1]
    by_cases h2 : i < k
    · rw [if_pos h2, if_pos h2, if_pos (by omega), if_pos (by omega)]
    · rw [if_neg h2, if_neg (show ¬ i < k + 1 by omega)]
      by_cases h3 : i < N
      · rw [if_pos (show i - k < N - k by omega), if_pos (show i - (k + 1) < N - (k + 1) by omega)]
      · rw [if_neg (show ¬ i - k < N - k by omega), if_neg (show ¬ i - (k + 1) < N - (k + 1) by omega)]
theorem firstOf_getD {k N i : Nat} (d : Bool) (hN : k ≤ N) (h : i < N) : (firstOf k N).getD i d = decide (i < k) := by
  unfold firstOf
  simp only [Array.getD_eq_getD_getElem?, Array.size_replicate, Array.getElem?_append, Array.getElem?_replicate]
  by_cases h2 : i < k
  · rw [if_pos h2, if_pos h2]; simp [h2]
  · rw [if_neg h2, if_pos (by omega)]; simp [h2]

/-- The first m are moves that anything may follow. -/
def floatsB (m : Nat) (l : List Oper) : Bool :=
  decide (m ≤ l.length) && (List.range m).all fun i => match l[i]? with
    | some o => (match o.op with | .move _ => true | _ => false) && o.guard.isNone && o.after.isEmpty &&
        Region.free .any l.toArray (firstOf i l.length) i && (Region.ready .any l.toArray (firstOf i l.length)).contains i
    | none => false

/-- All that is asked of the region's shape, as one Bool. -/
def tailB (m n : Nat) (l : List Oper) : Bool :=
  backB .any l.toArray && sinkFrom .any l.toArray m n && Region.chainB .any l.toArray n && decide (n < l.length) && decide (m ≤ n) && floatsB m l && Region.noSelect l.toArray &&
  Region.seqB .any l.toArray (l.length - n) n (Array.replicate n true ++ Array.replicate (l.length - n) false) && guardsB n l &&
  Region.noSelect (idled n l).toArray && Region.lexFrom .any (idled n l).toArray (l.length - m) m (firstOf m l.length)

theorem wpQuiet_mono {ops : Array Oper} : ∀ (h : List Oper) (a : Act) {Q1 Q2 : Act → Prop}, (∀ a, Q1 a → Q2 a) → wpQuiet P ops C Q1 h a → wpQuiet P ops C Q2 h a
  | [], a, _, _, hQ, h => hQ a h
  | o :: t, a, _, _, hQ, h => by
    unfold wpQuiet at h ⊢
    split
    · rename_i hw; rw [if_pos hw] at h; exact Oper.quiet_mono (fun a' h' => wpQuiet_mono t a' hQ h') h
    · rename_i hw; rw [if_neg hw] at h; exact wpQuiet_mono t _ hQ h

theorem wpAny_of_parts {m n : Nat} {Q : Exit → Act → World → Prop} {w : World} {l : List Oper} (hB : tailB m n l = true) (hC : C w)
    (hQ : ∀ (i : Nat) (o : Oper), i < m → l[i]? = some o → ∀ c a w v, Q (.panic c) (a.put o.dst v) w → Q (.panic c) a w) :
    ∀ (r k : Nat) (a : Act), k + r = m → wpQuiet P l.toArray C (fun a' => ∀ w', C w' → wpList P l.toArray Q (l.drop n) a' w') ((l.take n).drop k) a →
      wpAny P .any l.toArray Q (l.length - k) (firstOf k l.length) a w := by
  simp only [tailB, Bool.and_eq_true, decide_eq_true_eq] at hB
  obtain ⟨⟨⟨⟨⟨⟨⟨⟨⟨⟨hb, hs⟩, hc⟩, hn⟩, hmn⟩, hfl⟩, hsel⟩, hq⟩, hg⟩, hsel'⟩, hlex⟩ := hB
  have hfl' := hfl
  simp only [floatsB, Bool.and_eq_true, decide_eq_true_eq] at hfl'
  intro r
  induction r with
  | zero =>
    intro k a hk h
    have hkm : k = m := by omega
    subst hkm
    have hw := wpAnyQ_lex (P := P) (md := .any) (C := C) (ops := (idled n l).toArray) (Q := fun a' => ∀ w', C w' → wpList P l.toArray Q (l.drop n) a' w') hsel' ((idled n l).drop k) k (firstOf k l.length) a
      (fun j => by simp [List.getElem?_drop]) (by rw [List.length_drop, idled_length]; exact hlex) (by
        have e : (idled n l).drop k = (l.take n).drop k ++ (l.drop n).map idle := by
          unfold idled; rw [List.drop_append_of_le_length (by simp; omega)]
        rw [e]
        exact wpQuiet_append _ _ _ (wpQuiet_idled hg ((l.take n).drop k) (fun _ h => List.mem_of_mem_drop h) a (wpQuiet_mono _ _ (fun a' h' => wpQuiet_idles _ a' h') h)))
    rw [List.length_drop, idled_length] at hw
    refine wpAny_of_headtail hb hs hc hn hq hg (l.length - k) _ a w ?_ ?_ ?_ hC hw
    · refine ⟨by simp [firstOf]; omega, fun j oj hj hl e he _ => ?_, fun t ht ht' => ?_⟩
      · have hjlt : j < l.length := by
          rcases Nat.lt_or_ge j l.length with h' | h'
          · exact h'
          · rw [List.getElem?_toArray, List.getElem?_eq_none h'] at hj; cases hj
        rw [firstOf_getD _ (by omega) hjlt] at hl
        have hjk : j < k := by simpa using hl
        have h1 := List.all_eq_true.1 hfl'.2 j (List.mem_range.2 hjk)
        rw [List.getElem?_toArray] at hj
        simp only [hj, Bool.and_eq_true, Array.isEmpty_iff] at h1
        exact absurd he (by rw [h1.1.1.2]; simp)
      · have ht'' : t < l.length := by simpa using ht'
        rw [firstOf_getD _ (by omega) ht'']; simp; omega
    · intro i hi; rw [firstOf_getD _ (by omega) (by omega)]; simpa using hi
    · simp [firstOf, Array.count_append, Array.count_replicate]
  | succ r ih =>
    intro k a hk h
    have hkm : k < m := by omega
    have hkl : k < l.length := by omega
    have h1 := List.all_eq_true.1 hfl'.2 k (List.mem_range.2 hkm)
    rw [List.getElem?_eq_getElem hkl] at h1
    simp only [Bool.and_eq_true] at h1
    obtain ⟨⟨⟨⟨hmv, hgd⟩, haf⟩, hfree⟩, hready⟩ := h1
    have hd : (l.take n).drop k = l[k] :: (l.take n).drop (k + 1) := by
      rw [List.drop_eq_getElem_cons (by simp; omega)]; simp
    rw [hd] at h
    unfold wpQuiet at h
    have hw : Region.wanted l[k] (yielded l.toArray a.tmps) = true := by
      unfold Region.wanted; rw [Option.isNone_iff_eq_none.1 hgd]
    rw [if_pos hw] at h
    obtain ⟨v, hv, hnext⟩ := h
    have hmove : ∃ x, l[k].op = .move x := by
      revert hmv
      cases l[k].op <;> simp
    obtain ⟨x, hx⟩ := hmove
    have hrun : ∀ w, (execOp a.eval l[k]).run P w = .ok (.value (a.eval x)) w := fun w => BigFrame.run_move x hx w
    have hvx : a.eval x = v := by
      have := hv w hC
      unfold Oper.quietAt at this
      rw [hrun] at this
      exact this.2
    have hlen : l.length - k = (l.length - (k + 1)) + 1 := by omega
    rw [hlen]
    refine wpAny_take (by rw [List.getElem?_toArray]; exact List.getElem?_eq_getElem hkl) hsel hfree hready (fun c a w => hQ k l[k] hkm (List.getElem?_eq_getElem hkl) c a w v) (.inl ⟨hw, fun w => by rw [hrun, hvx]⟩) ?_
    rw [firstOf_succ hkl]
    exact ih (k + 1) _ (by omega) hnext

/-- THE HEAD QUIET, IN THE CLASS OF A WORLD's EXTENSIONS; THEN THE TAIL, in its order. -/
theorem wp_region_tail {id : Nat} {Q : Exit → Act → World → Prop} {a : Act} {w : World} {l : List Oper} (n : Nat) (hm : P.follows .mixedOrders = true) (hB : tailB 0 n l = true)
    (h : wpQuiet P l.toArray (fun w' => ∃ x, w' = ext w x) (fun a' => ∀ w', (∃ x, w' = ext w x) → wpList P l.toArray Q (l.drop n) a' w') (l.take n) a) : (Code.region id l.toArray true).wp P Q a w := by
  refine wp_region_any hm ?_
  have := wpAny_of_parts (P := P) (C := fun w' => ∃ x, w' = ext w x) (w := { w with drawn := w.drawn + 1 }) hB (ext_drew (ext_refl w)) (fun i o hi => absurd hi (Nat.not_lt_zero i)) 0 0 a rfl (by simpa using h)
  simpa [firstOf_zero] using this
/-- The same where the first m operations are moves that nothing of the head waits for ('append(b, f(x[i]))': b is read at once). 'hQ': a panic's exit does not look at their slots: 'fun _ _ _ _ _ _ _ h => h'. -/
theorem wp_region_ftail {id : Nat} {Q : Exit → Act → World → Prop} {a : Act} {w : World} {l : List Oper} (m n : Nat) (hm : P.follows .mixedOrders = true) (hB : tailB m n l = true)
    (hQ : ∀ (d : Tmp) c a w v, Q (.panic c) (Act.put a (some d) v) w → Q (.panic c) a w)
    (h : wpQuiet P l.toArray (fun w' => ∃ x, w' = ext w x) (fun a' => ∀ w', (∃ x, w' = ext w x) → wpList P l.toArray Q (l.drop n) a' w') (l.take n) a) : (Code.region id l.toArray true).wp P Q a w := by
  refine wp_region_any hm ?_
  have := wpAny_of_parts (P := P) (C := fun w' => ∃ x, w' = ext w x) (w := { w with drawn := w.drawn + 1 }) hB (ext_drew (ext_refl w)) (fun i o _ _ c a w v => match o.dst with | none => fun h => h | some d => hQ d c a w v) m 0 a (by omega) (by simpa using h)
  simpa [firstOf_zero] using this
end
end Go.Proofs.YtnkmckdefiblhaaGreatDoor
